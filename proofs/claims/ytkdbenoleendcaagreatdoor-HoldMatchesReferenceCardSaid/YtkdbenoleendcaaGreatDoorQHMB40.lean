/- foyerref26: appends of holds and of numbers, in any world. -/
import Derived.Test.YtkdbenoleendcaaGreatDoorQHMB39

namespace Go.Proofs.YtkdbenoleendcaaGreatDoor
open Go.RowKit Go.IntWalk Go.Maps Go.WideMaps

theorem row_lt {w : World} {B k n r : Nat} {T : TypeId} {v : Value} {xs : List Value} (h : w.ownsRow B T k v n xs) (e : v.ownBlock = some r) : r < w.heap.size := by
  rcases h.2 with ⟨rfl, _⟩ | ⟨g, cap, cur, rfl, hb, hh, _⟩
  · cases e
  · cases e
    exact lt_of_block hh

theorem row_base {w : World} {B B' k n : Nat} {T : TypeId} {v : Value} {xs : List Value} (hB : B ≤ B') (h : w.ownsRow B' T k v n xs) : w.ownsRow B T k v n xs := by
  refine ⟨h.1, ?_⟩
  rcases h.2 with h4 | ⟨g, cap, cur, e, hb, r⟩
  · exact Or.inl h4
  · exact Or.inr ⟨g, cap, cur, e, Nat.le_trans hB hb, r⟩

theorem append_noneH (w : World) (b : Nat) (ra : Option Addr) (c : Nat) : (Builtin.append_ #[47, 47] 47 #[.slice (some ⟨b, 0, none⟩) 0 0, .slice ra 0 c]).run Tryz.prog w = .ok (.slice (some ⟨b, 0, none⟩) 0 0) w := by
  obtain ⟨i0, hi, hz0, hz1, hz2⟩ := info_parts' info_hold
  cases ra with
  | none => simp [Builtin.append_, run_underlying Tryz.underlying47, sizeOf, typeInfo, hi, Builtin.lenOf, Builtin.firstCells, loadCells, loadCellsFrom, storeCells]
  | some ad => simp [Builtin.append_, run_underlying Tryz.underlying47, sizeOf, typeInfo, hi, Builtin.lenOf, Builtin.firstCells, loadCells, loadCellsFrom, storeCells]

/-- append of operations to an empty slice, in any world. -/
theorem copy_holds (w : World) (B b : Nat) (ra : Option Addr) (n c : Nat) (rs : List OwnT) (hB : B ≤ w.heap.size) (hn : n ≤ 100000) (hL : Recs OwnE w ra n rs) (h0 : w.ownsRow B 51 6 (.slice (some ⟨b, 0, none⟩) 0 0) 0 []) :
    ∃ v w', (Builtin.append_ #[47, 47] 47 #[.slice (some ⟨b, 0, none⟩) 0 0, .slice ra n c]).run Tryz.prog w = .ok v w' ∧
    Below w.heap.size w w' ∧ w'.ownsRow B 51 6 v n (flat OwnE rs) ∧ (n ≠ 0 → ∀ r, v.ownBlock = some r → w.heap.size ≤ r) ∧ (n = 0 → v = .slice (some ⟨b, 0, none⟩) 0 0) := by
  by_cases hn0 : n = 0
  · subst hn0
    have : rs = [] := List.length_eq_zero_iff.mp hL.1
    subst this
    exact ⟨_, w, append_noneH w b ra c, Below.refl _ _, h0, fun h => absurd rfl h, fun _ => rfl⟩
  · obtain ⟨i0, hi, hz0, hz1, hz2⟩ := info_parts' info_hold
    obtain ⟨ab, ao, rfl, _⟩ := hL.2 0 (by omega)
    obtain ⟨v', w', hr, h2, h3⟩ := run_append_arg_grows (P := Tryz.prog) w 47 47 51 i0 _ 6 72 Tryz.underlying47 hi hz0 hz1 hz2 rfl (by decide) ⟨b, 0, none⟩ 0 0 [] rfl (fun j u hj => by simp at hj) ⟨ab, ao, none⟩ n c (flat OwnE rs)
      (by rw [flat_len, hL.1]) (flat_cells hL) (by omega) (by unfold maxLen; omega) (by omega)
    rw [Nat.zero_add, List.nil_append] at h2
    refine ⟨v', w', hr, ⟨h3.os, h3.tape, h3.output, h3.size, fun i hi => h3.block i hi (by simp)⟩, ⟨h2.1, ?_⟩, fun _ r hr => (h2.lt r hr).1, fun h => absurd h hn0⟩
    rcases h2.2 with h4 | ⟨g, cap, cur, e, hb, r⟩
    · exact Or.inl h4
    · exact Or.inr ⟨g, cap, cur, e, Nat.le_trans hB hb, r⟩

/-- An append whose run is known, as a step of a region; it may stand behind a guard. -/
theorem step_append_w {P : Program} {ops : Array Oper} {o : Oper} {a : Act} {w w' : World} {K : Act → World → Prop} {Q : Exit → Act → World → Prop} {E : Prop} (hw : Region.wanted o (yielded ops a.tmps) = true) (s x : Operand) (t : TypeId)
    (ho : o.op = .call { callee := .builtin .append, args := #[s, x], argTypes := #[t, t] }) {v u res : Value} (ty : TypeId) (hty : o.type = ty)
    (hr : (Builtin.append_ #[t, t] ty #[v, u]).run P w = .ok res w') (hs : a.eval s = v) (hx : a.eval x = u) (h : K (a.put o.dst res) w') : if Region.wanted o (yielded ops a.tmps) = true then Oper.wp P o a w K Q else E := by
  rw [if_pos hw]
  unfold Oper.wp execOp
  simp only [ho, hty, resolve, invoke, builtin, Sem.run_bind, Sem.run_pure, Result.andThen_ok, List.map_toArray, List.map_cons, List.map_nil, hs, hx, hr]
  exact h


/-- append of holds to holds of the call's own, in any world. -/
theorem join_holds (w : World) (B n : Nat) (u : Value) (A ys : List OwnT) (ad : Addr) (m c : Nat) (hB : B ≤ w.heap.size) (hn : n ≤ 100000) (hm : m ≤ 100000) (hL : Recs OwnE w (some ad) m ys) (h0 : w.ownsRow B 51 6 u n (flat OwnE A)) (hn0 : n = 0 → ∃ b, u = .slice (some ⟨b, 0, none⟩) 0 0) :
    ∃ v w', (Builtin.append_ #[47, 47] 47 #[u, .slice (some ad) m c]).run Tryz.prog w = .ok v w' ∧ w'.ownsRow B 51 6 v (n + m) (flat OwnE (A ++ ys)) ∧ w.grownBy w' (if n = 0 then none else u.ownBlock) := by
  have hA : A.length = n := by
    have := h0.1
    rw [flat_len] at this
    exact Nat.eq_of_mul_eq_mul_right (by omega : 0 < 6) this
  by_cases h1 : n = 0
  · obtain ⟨b, rfl⟩ := hn0 h1
    subst h1
    have hA0 : A = [] := List.length_eq_zero_iff.mp hA
    subst hA0
    obtain ⟨v, w', hr, hb, ho, h2, h3⟩ := copy_holds w B b (some ad) m c ys hB hm hL (by simpa [flat] using h0)
    refine ⟨v, w', hr, by rw [Nat.zero_add, List.nil_append]; exact ho, ?_⟩
    rw [if_pos rfl]
    exact ⟨hb.os, hb.tape, hb.output, hb.size, fun i hi _ => hb.block i hi⟩
  · rw [if_neg h1]
    obtain ⟨i0, hi, hz0, hz1, hz2⟩ := info_parts' info_hold
    obtain ⟨v', w', hr, h2, h3, _⟩ := run_append_own_at (P := Tryz.prog) w B 47 47 51 i0 _ 6 72 Tryz.underlying47 hi hz0 hz1 hz2 rfl (by decide) u n (flat OwnE A) h0 ad m c (flat OwnE ys)
      (by rw [flat_len, hL.1]) (flat_cells hL) flat_one (by unfold maxLen; omega) (by omega) hB
    exact ⟨v', w', hr, by rw [flat_append]; exact h2, h3⟩

/-- append of numbers to an empty slice, in any world. -/
theorem copy_nums (w : World) (B b : Nat) (ra : Option Addr) (n c : Nat) (L : List Int) (hB : B ≤ w.heap.size) (hn : n ≤ 100000) (hn1 : 1 ≤ n) (hL : Ints w ra n L) (h0 : w.ownsRow B 3 1 (.slice (some ⟨b, 0, none⟩) 0 0) 0 []) :
    ∃ b' c' w', (Builtin.append_ #[29, 29] 29 #[.slice (some ⟨b, 0, none⟩) 0 0, .slice ra n c]).run Tryz.prog w = .ok (.slice (some ⟨b', 0, none⟩) n c') w' ∧ Below w.heap.size w w' ∧ IntRow w' b' 3 L ∧ w.heap.size ≤ b' := by
  obtain ⟨i0, hi, hz0, hz1, hz2⟩ := info_parts' int_info
  obtain ⟨ab, ao, rfl, _⟩ := hL.2 0 (by omega)
  obtain ⟨v', w', hr, h2, h3⟩ := run_append_arg_grows (P := Tryz.prog) w 29 29 3 i0 _ 1 8 Tryz.underlying29 hi hz0 hz1 hz2 rfl (by decide) ⟨b, 0, none⟩ 0 0 [] rfl (fun j u hj => by simp at hj) ⟨ab, ao, none⟩ n c (L.map (Value.int .i64))
    (by rw [List.length_map, hL.1, Nat.mul_one]) (fun j u hj => by
      rw [List.getElem?_map] at hj
      rcases Nat.lt_or_ge j L.length with hjl | hjl
      · rw [List.getElem?_eq_getElem hjl] at hj
        obtain ⟨b', o', e, c'⟩ := hL.2 j (by rw [← hL.1]; exact hjl)
        cases e
        rw [add_none, c', ix_get hjl]
        simpa using hj
      · rw [List.getElem?_eq_none hjl] at hj
        simp at hj) (by omega) (by unfold maxLen; omega) (by omega)
  rw [Nat.zero_add, List.nil_append] at h2
  obtain ⟨g, c', rfl, hg, hir⟩ := IntRow.of_row (by omega) h2
  exact ⟨g, c', w', hr, ⟨h3.os, h3.tape, h3.output, h3.size, fun i hi => h3.block i hi (by simp)⟩, hir, hg⟩
end Go.Proofs.YtkdbenoleendcaaGreatDoor
