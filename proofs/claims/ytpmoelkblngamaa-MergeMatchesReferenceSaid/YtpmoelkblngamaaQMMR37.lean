/- merge: foyerref38.before: the walk. -/
import Derived.Test.YtpmoelkblngamaaQMMR21

namespace Go.Proofs.Ytpmoelkblngamaa
open Go.RowKit Go.IntWalk Go.Maps Go.WideMaps

theorem lex_first : ∀ (i : Nat) {X Y : List Int}, (∀ j, j < i → ix X j = ix Y j) → i < X.length → i < Y.length → ix X i ≠ ix Y i → (X < Y ↔ ix X i < ix Y i)
  | 0, a :: l, b :: m, _, _, _, hne => by
    rw [less_key, if_neg (show ¬ a = b from hne)]
    exact Iff.rfl
  | i + 1, a :: l, b :: m, h, h1, h2, hne => by
    have h0 : a = b := h 0 (Nat.zero_lt_succ _)
    rw [less_key, if_pos h0]
    exact lex_first i (fun j hj => h (j + 1) (by omega)) (by simpa using h1) (by simpa using h2) hne
  | 0, [], _, _, h1, _, _ => by simp at h1
  | _ + 1, [], _, _, h1, _, _ => by simp at h1
  | 0, _ :: _, [], _, _, h2, _ => by simp at h2
  | _ + 1, _ :: _, [], _, _, h2, _ => by simp at h2

theorem ints_row {w : World} {g : Nat} {L : List Int} (h : w.heap[g]? = some (.cells (L.map (Value.int .i64)).toArray 3 (0, 0))) : Ints w (some ⟨g, 0, none⟩) L.length L :=
  ⟨rfl, fun k hk => ⟨g, 0, rfl, by
    rw [Nat.zero_add]
    simp only [World.cell?, h, List.getElem?_toArray, List.getElem?_map]
    rw [ix_get hk, List.getElem?_eq_getElem hk]
    rfl⟩⟩

set_option maxRecDepth 10000 in
set_option maxHeartbeats 1600000 in
theorem before_any (x y : Blm) (w : World) : Calls Try.prog 57 #[.agg #[.int .i64 x.kind, .int .i64 x.serial, .int .i64 x.gate, .int .i64 x.number, .int .i64 x.other, .int .i64 x.count], .agg #[.int .i64 y.kind, .int .i64 y.serial, .int .i64 y.gate, .int .i64 y.number, .int .i64 y.other, .int .i64 y.count]] w fun e w' => e = .returned (.bool (decide (KLt KB x y))) ∧ Below w.heap.size w w' := by
  have HK : Hid (KLt KB x y ↔ [x.kind, x.gate, x.number, x.serial, x.other, x.count] < [y.kind, y.gate, y.number, y.serial, y.other, y.count]) := Iff.rfl
  have HB := Lib.hid (Joins.below_alloc2 w (.cells #[.int .i64 x.kind, .int .i64 x.serial, .int .i64 x.gate, .int .i64 x.number, .int .i64 x.other, .int .i64 x.count] 48) (.cells #[.int .i64 y.kind, .int .i64 y.serial, .int .i64 y.gate, .int .i64 y.number, .int .i64 y.other, .int .i64 y.count] 48))
  have n1 := (two_blk w (.cells #[.int .i64 x.kind, .int .i64 x.serial, .int .i64 x.gate, .int .i64 x.number, .int .i64 x.other, .int .i64 x.count] 48) (.cells #[.int .i64 y.kind, .int .i64 y.serial, .int .i64 y.gate, .int .i64 y.number, .int .i64 y.other, .int .i64 y.count] 48)).1
  have n2 := (two_blk w (.cells #[.int .i64 x.kind, .int .i64 x.serial, .int .i64 x.gate, .int .i64 x.number, .int .i64 x.other, .int .i64 x.count] 48) (.cells #[.int .i64 y.kind, .int .i64 y.serial, .int .i64 y.gate, .int .i64 y.number, .int .i64 y.other, .int .i64 y.count] 48)).2
  go_enter Try.func57, Try.ntmps57
  go_upto_region 1 with fail
  generalize (w.alloc (.cells #[.int .i64 x.kind, .int .i64 x.serial, .int .i64 x.gate, .int .i64 x.number, .int .i64 x.other, .int .i64 x.count] 48)).alloc (.cells #[.int .i64 y.kind, .int .i64 y.serial, .int .i64 y.gate, .int .i64 y.number, .int .i64 y.other, .int .i64 y.count] 48) = w1 at *
  have x0 : w1.cell? ⟨w.heap.size, 0, none⟩ = some (.int .i64 x.kind) := by rw [cell_of_row _ _ _ _ _ _ n1]; rfl
  have x1 : w1.cell? ⟨w.heap.size, 1, none⟩ = some (.int .i64 x.serial) := by rw [cell_of_row _ _ _ _ _ _ n1]; rfl
  have x2 : w1.cell? ⟨w.heap.size, 2, none⟩ = some (.int .i64 x.gate) := by rw [cell_of_row _ _ _ _ _ _ n1]; rfl
  have x3 : w1.cell? ⟨w.heap.size, 3, none⟩ = some (.int .i64 x.number) := by rw [cell_of_row _ _ _ _ _ _ n1]; rfl
  have x4 : w1.cell? ⟨w.heap.size, 4, none⟩ = some (.int .i64 x.other) := by rw [cell_of_row _ _ _ _ _ _ n1]; rfl
  have x5 : w1.cell? ⟨w.heap.size, 5, none⟩ = some (.int .i64 x.count) := by rw [cell_of_row _ _ _ _ _ _ n1]; rfl
  go_upto_region 2 with fail
  have hA := Joins.below_alloc1 w1 (.cells #[.int .i64 x.kind, .int .i64 x.gate, .int .i64 x.number, .int .i64 x.serial, .int .i64 x.other, .int .i64 x.count] 3)
  have HX2 : Hid (Ints (w1.alloc (.cells #[.int .i64 x.kind, .int .i64 x.gate, .int .i64 x.number, .int .i64 x.serial, .int .i64 x.other, .int .i64 x.count] 3)) (some ⟨w1.heap.size, 0, none⟩) 6 [x.kind, x.gate, x.number, x.serial, x.other, x.count]) := ints_row (World.alloc_heap_new w1 _)
  have n2 := (hA.block _ (lt_of_block n2)).trans n2
  have HB2 := Lib.hid (HB.out.trans (hA.mono HB.out.size))
  clear hA n1 x0 x1 x2 x3 x4 x5 HB
  generalize w1.alloc (.cells #[.int .i64 x.kind, .int .i64 x.gate, .int .i64 x.number, .int .i64 x.serial, .int .i64 x.other, .int .i64 x.count] 3) = w2 at *
  generalize w1.heap.size = gx at *
  have y0 : w2.cell? ⟨w.heap.size + 1, 0, none⟩ = some (.int .i64 y.kind) := by rw [cell_of_row _ _ _ _ _ _ n2]; rfl
  have y1 : w2.cell? ⟨w.heap.size + 1, 1, none⟩ = some (.int .i64 y.serial) := by rw [cell_of_row _ _ _ _ _ _ n2]; rfl
  have y2 : w2.cell? ⟨w.heap.size + 1, 2, none⟩ = some (.int .i64 y.gate) := by rw [cell_of_row _ _ _ _ _ _ n2]; rfl
  have y3 : w2.cell? ⟨w.heap.size + 1, 3, none⟩ = some (.int .i64 y.number) := by rw [cell_of_row _ _ _ _ _ _ n2]; rfl
  have y4 : w2.cell? ⟨w.heap.size + 1, 4, none⟩ = some (.int .i64 y.other) := by rw [cell_of_row _ _ _ _ _ _ n2]; rfl
  have y5 : w2.cell? ⟨w.heap.size + 1, 5, none⟩ = some (.int .i64 y.count) := by rw [cell_of_row _ _ _ _ _ _ n2]; rfl
  go_upto_region 3 with fail
  have hA := Joins.below_alloc1 w2 (.cells #[.int .i64 y.kind, .int .i64 y.gate, .int .i64 y.number, .int .i64 y.serial, .int .i64 y.other, .int .i64 y.count] 3)
  have HY3 : Hid (Ints (w2.alloc (.cells #[.int .i64 y.kind, .int .i64 y.gate, .int .i64 y.number, .int .i64 y.serial, .int .i64 y.other, .int .i64 y.count] 3)) (some ⟨w2.heap.size, 0, none⟩) 6 [y.kind, y.gate, y.number, y.serial, y.other, y.count]) := ints_row (World.alloc_heap_new w2 _)
  have HX3 := Lib.hid (HX2.out.below hA)
  have HB3 := Lib.hid (HB2.out.trans (hA.mono HB2.out.size))
  clear hA n2 y0 y1 y2 y3 y4 y5 HB2 HX2
  generalize w2.alloc (.cells #[.int .i64 y.kind, .int .i64 y.gate, .int .i64 y.number, .int .i64 y.serial, .int .i64 y.other, .int .i64 y.count] 3) = w3 at *
  generalize w2.heap.size = gy at *
  have HLX : Hid ([x.kind, x.gate, x.number, x.serial, x.other, x.count].length = 6) := rfl
  have HLY : Hid ([y.kind, y.gate, y.number, y.serial, y.other, y.count].length = 6) := rfl
  generalize [x.kind, x.gate, x.number, x.serial, x.other, x.count] = X at *
  generalize [y.kind, y.gate, y.number, y.serial, y.other, y.count] = Y at *
  go_wp2_with fail
  go_loopw [7] (fun v7 wx => ∃ i : Nat, v7 = .int .i64 i ∧ i ≤ 6 ∧ Hid (∀ j, j < i → ix X j = ix Y j) ∧ Hid (Below w3.heap.size w3 wx)) (fun v7 _ => 6 - (intOf v7).toNat)
  case atStart => exact ⟨0, rfl, Nat.zero_le _, fun j hj => by omega, Below.refl _ _⟩
  case round =>
    obtain ⟨i, rfl, hi, HE, HBr⟩ := hrel
    by_cases hlt : i < 6
    · obtain ⟨_, _, e1, p0⟩ := (HX3.out.below HBr.out).2 i hlt
      cases e1
      obtain ⟨_, _, e2, q0⟩ := (HY3.out.below HBr.out).2 i hlt
      cases e2
      rw [Nat.zero_add] at p0 q0
      have HLF : Hid (ix X i ≠ ix Y i → (X < Y ↔ ix X i < ix Y i)) := fun hne => lex_first i HE.out (by have := HLX.out; omega) (by have := HLY.out; omega) hne
      have HNE : Hid (ix X i = ix Y i → ∀ j, j < i + 1 → ix X j = ix Y j) := fun h1 j hj => by
        by_cases e : j = i
        · rw [e]; exact h1
        · exact HE.out j (by omega)
      generalize ix X i = a at *
      generalize ix Y i = b at *
      have hi6 : (i : Int) < 6 := by omega
      clear HE
      by_cases h1 : a = b
      · have hb : (a != b) = false := by simp [h1]
        have HN := Lib.hid (HNE.out h1)
        clear h1
        go_upto_region 6 with fail
        go_region
        go_wp2_with fail
        go_roundw
        case rel => exact ⟨i + 1, by go_num, by omega, HN.out, HBr.out.drew⟩
        case measure => (simp [intOf] <;> omega)
      · have hb : (a != b) = true := by simp [h1]
        have HR : Hid (decide (KLt KB x y) = decide (a < b)) := decide_eq_decide.mpr (HK.out.trans (HLF.out h1))
        clear h1
        go_upto_region 6 with fail
        go_region
        go_upto_region 7 with fail
        go_region
        go_wp2_with fail
        go_ret
        exact ⟨by rw [HR.out]; rfl, HB3.out.trans ((HBr.out.drew.drew).mono HB3.out.size)⟩
    · have hi6 : i = 6 := by omega
      subst hi6
      have HR : Hid (decide (KLt KB x y) = false) := decide_eq_false fun h => by
        have h2 := HK.out.mp h
        have e : X = Y := list_ix (by rw [HLX.out, HLY.out]) fun j hj => HE.out j (by have := HLX.out; omega)
        rw [e] at h2
        exact List.lt_irrefl _ h2
      go_wp2_with fail
      go_ret
      exact ⟨by rw [HR.out]; rfl, HB3.out.trans (HBr.out.mono HB3.out.size)⟩
end Go.Proofs.Ytpmoelkblngamaa
