/- hold: a region that joins the operations with further ones. -/
import Derived.ArgAppend
import Derived.Deep.AppendLies
import Derived.Test.YtkdbenoleendcaaDoorT1
namespace Go.Proofs.YtkdbenoleendcaaDoor
open Go.RowKit Go.IntWalk Go.Maps Go.WideMaps

theorem info_op : (Tryd.prog.info? 38).map (fun i => (i.zero, i.size, i.bytes)) = some (some (.agg #[.int .i64 0, .string (bs []), .slice none 0 0, .int .i64 0, .int .i64 0]), 5, 64) := by kernel_rfl

theorem row_lt {w : World} {B k n r : Nat} {T : TypeId} {v : Value} {xs : List Value} (h : w.ownsRow B T k v n xs) (e : v.ownBlock = some r) : r < w.heap.size := by
  rcases h.2 with ⟨rfl, _⟩ | ⟨g, cap, cur, rfl, hb, hh, _⟩
  · cases e
  · cases e
    exact lt_of_block hh

theorem row_base {w : World} {B B' k n : Nat} {T : TypeId} {v : Value} {xs : List Value} (hB : B ≤ B') (h : w.ownsRow B' T k v n xs) : w.ownsRow B T k v n xs := by
  refine ⟨h.1, ?_⟩
  rcases h.2 with h4 | ⟨g, cap, cur, e, hb, r⟩
  · exact Or.inl h4
  · exact Or.inr ⟨g, cap, cur, e, Nat.le_trans hB hb, r⟩

theorem append_noneO (w : World) (b : Nat) (ra : Option Addr) (c : Nat) : (Builtin.append_ #[22, 22] 22 #[.slice (some ⟨b, 0, none⟩) 0 0, .slice ra 0 c]).run Tryd.prog w = .ok (.slice (some ⟨b, 0, none⟩) 0 0) w := by
  obtain ⟨i0, hi, hz0, hz1, hz2⟩ := info_parts' info_op
  cases ra with
  | none => simp [Builtin.append_, run_underlying Tryd.underlying22, sizeOf, typeInfo, hi, Builtin.lenOf, Builtin.firstCells, loadCells, loadCellsFrom, storeCells]
  | some ad => simp [Builtin.append_, run_underlying Tryd.underlying22, sizeOf, typeInfo, hi, Builtin.lenOf, Builtin.firstCells, loadCells, loadCellsFrom, storeCells]

/-- append of operations to an empty slice, in any world. -/
theorem copy_ops (w : World) (B b : Nat) (ra : Option Addr) (n c : Nat) (rs : List OpR) (hB : B ≤ w.heap.size) (hn : n * 64 ≤ 140737488351232) (hL : Recs OpE w ra n rs) (h0 : w.ownsRow B 38 5 (.slice (some ⟨b, 0, none⟩) 0 0) 0 []) :
    ∃ v w', (Builtin.append_ #[22, 22] 22 #[.slice (some ⟨b, 0, none⟩) 0 0, .slice ra n c]).run Tryd.prog w = .ok v w' ∧
    Below w.heap.size w w' ∧ w'.ownsRow B 38 5 v n (flat OpE rs) ∧ (n ≠ 0 → ∀ r, v.ownBlock = some r → w.heap.size ≤ r) ∧ (n = 0 → v = .slice (some ⟨b, 0, none⟩) 0 0) := by
  by_cases hn0 : n = 0
  · subst hn0
    have : rs = [] := List.length_eq_zero_iff.mp hL.1
    subst this
    exact ⟨_, w, append_noneO w b ra c, Below.refl _ _, h0, fun h => absurd rfl h, fun _ => rfl⟩
  · obtain ⟨i0, hi, hz0, hz1, hz2⟩ := info_parts' info_op
    obtain ⟨ab, ao, rfl, _⟩ := hL.2 0 (by omega)
    obtain ⟨v', w', hr, h2, h3⟩ := run_append_arg_grows (P := Tryd.prog) w 22 22 38 i0 _ 5 64 Tryd.underlying22 hi hz0 hz1 hz2 rfl (by decide) ⟨b, 0, none⟩ 0 0 [] rfl (fun j u hj => by simp at hj) ⟨ab, ao, none⟩ n c (flat OpE rs)
      (by rw [flat_len, hL.1]) (flat_cells hL) (by omega) (by unfold maxLen; omega) (by omega)
    rw [Nat.zero_add, List.nil_append] at h2
    refine ⟨v', w', hr, ⟨h3.os, h3.tape, h3.output, h3.size, fun i hi => h3.block i hi (by simp)⟩, ⟨h2.1, ?_⟩, fun _ r hr => (h2.lt r hr).1, fun h => absurd h hn0⟩
    rcases h2.2 with h4 | ⟨g, cap, cur, e, hb, r⟩
    · exact Or.inl h4
    · exact Or.inr ⟨g, cap, cur, e, Nat.le_trans hB hb, r⟩

/-- What each of the three effects leaves. -/
def FO (B : Nat) (rs ys : List OpR) (k : Nat) (u : Value) (w : World) : Prop :=
  match k with
  | 0 => w.ownsRow B 38 5 u 0 [] ∧ ∃ b, u = .slice (some ⟨b, 0, none⟩) 0 0
  | 1 => w.ownsRow B 38 5 u rs.length (flat OpE rs) ∧ (rs.length = 0 → ∃ b, u = .slice (some ⟨b, 0, none⟩) 0 0)
  | _ => ∃ b, u = .slice (some ⟨b, 0, none⟩) ys.length ys.length ∧ w.heap[b]? = some (.cells (flat OpE ys).toArray 38 (0, 0))

def bkO (rs : List OpR) (k : Nat) (u : Value) : Option Nat :=
  match k with
  | 1 => if rs.length = 0 then none else u.ownBlock
  | _ => none

theorem FO.below {B : Nat} {rs ys : List OpR} (k : Nat) (u : Value) (w w' : World) (h : FO B rs ys k u w) (hb : Below w.heap.size w w') : FO B rs ys k u w' := by
  unfold FO at *
  match k with
  | 0 => exact ⟨row_of_heap h.1 (fun r hr => hb.block r (row_lt h.1 hr)), h.2⟩
  | 1 => exact ⟨row_of_heap h.1 (fun r hr => hb.block r (row_lt h.1 hr)), h.2⟩
  | k + 2 => obtain ⟨b, e, r⟩ := h; exact ⟨b, e, (hb.block b (lt_of_block r)).trans r⟩

/-- Further operations, behind the second effect. -/
theorem append_ops {w : World} {B : Nat} {rs ys : List OpR} {u : Value} (hB : B ≤ w.heap.size) (hn : rs.length * 64 ≤ 140737488351232) (hy : ys.length = 1 ∨ ys.length = 2) (h : FO B rs ys 1 u w) (b : Nat) (hb : w.heap[b]? = some (.cells (flat OpE ys).toArray 38 (0, 0))) :
    ∃ v' w', (Builtin.append_ #[22, 22] 22 #[u, .slice (some ⟨b, 0, none⟩) ys.length ys.length]).run Tryd.prog w = .ok v' w' ∧ w'.ownsRow B 38 5 v' (rs.length + ys.length) (flat OpE (rs ++ ys)) ∧ w.grownBy w' (bkO rs 1 u) := by
  obtain ⟨i0, hi, hz0, hz1, hz2⟩ := info_parts' info_op
  have hnews : ∀ (j : Nat) (v : Value), (flat OpE ys)[j]? = some v → w.cell? ((⟨b, 0, none⟩ : Addr).add j) = some v := by
    intro j v hj
    rw [add_none, Nat.zero_add, cell_of_row _ _ _ _ _ _ hb]
    simpa using hj
  rw [flat_append]
  by_cases h0 : rs.length = 0
  · have hrs : rs = [] := List.length_eq_zero_iff.mp h0
    subst hrs
    obtain ⟨b1, rfl⟩ := h.2 rfl
    obtain ⟨v', w', hr, h2, h3⟩ := run_append_arg_grows (P := Tryd.prog) w 22 22 38 i0 _ 5 64 Tryd.underlying22 hi hz0 hz1 hz2 rfl (by decide) ⟨b1, 0, none⟩ 0 0 [] rfl (fun j u hj => by simp at hj) ⟨b, 0, none⟩ ys.length ys.length (flat OpE ys)
      (by rw [flat_len]) hnews (by omega) (by unfold maxLen; omega) (by omega)
    refine ⟨v', w', hr, ⟨h2.1, ?_⟩, h3⟩
    rcases h2.2 with h4 | ⟨g, cap, cur, e, hb, r⟩
    · exact Or.inl h4
    · exact Or.inr ⟨g, cap, cur, e, Nat.le_trans hB hb, r⟩
  · obtain ⟨v', w', hr, h2, h3, _⟩ := run_append_own_at (P := Tryd.prog) w B 22 22 38 i0 _ 5 64 Tryd.underlying22 hi hz0 hz1 hz2 rfl (by decide) u rs.length (flat OpE rs) h.1 ⟨b, 0, none⟩ ys.length ys.length (flat OpE ys)
      (by rw [flat_len]) hnews flat_one (by unfold maxLen; omega) (by omega) hB
    exact ⟨v', w', hr, h2, by unfold bkO; rw [if_neg h0]; exact h3⟩

/-- An append whose run is known, as a step of a region; it may stand behind a guard. -/
theorem step_append_w {P : Program} {ops : Array Oper} {o : Oper} {a : Act} {w w' : World} {K : Act → World → Prop} {Q : Exit → Act → World → Prop} {E : Prop} (hw : Region.wanted o (yielded ops a.tmps) = true) (s x : Operand) (t : TypeId)
    (ho : o.op = .call { callee := .builtin .append, args := #[s, x], argTypes := #[t, t] }) {v u res : Value} (ty : TypeId) (hty : o.type = ty)
    (hr : (Builtin.append_ #[t, t] ty #[v, u]).run P w = .ok res w') (hs : a.eval s = v) (hx : a.eval x = u) (h : K (a.put o.dst res) w') : if Region.wanted o (yielded ops a.tmps) = true then Oper.wp P o a w K Q else E := by
  rw [if_pos hw]
  unfold Oper.wp execOp
  simp only [ho, hty, resolve, invoke, builtin, Sem.run_bind, Sem.run_pure, Result.andThen_ok, List.map_toArray, List.map_cons, List.map_nil, hs, hx, hr]
  exact h

/-- What the three effects come to. -/
theorem ops_fin {w w4 : World} {rs ys : List OpR} {v : Nat → Value} (hn : rs.length * 64 ≤ 140737488351232) (hy : ys.length = 1 ∨ ys.length = 2) (hI : EffInv (FO w.heap.size rs ys) (bkO rs) w 3 (List.replicate 3 true) v w4) :
    ∃ b2 lu cu w5, v 2 = .slice (some ⟨b2, 0, none⟩) ys.length ys.length ∧ (Builtin.append_ #[22, 22] 22 #[v 1, .slice (some ⟨b2, 0, none⟩) ys.length ys.length]).run Tryd.prog w4 = .ok (.slice lu (rs.length + ys.length) cu) w5 ∧
      Below w.heap.size w w5 ∧ Recs OpE w5 lu (rs.length + ys.length) (rs ++ ys) := by
  have F1 : FO w.heap.size rs ys 1 (v 1) w4 := hI.fact 1 (by decide) rfl
  obtain ⟨b3, f3, F3⟩ : FO w.heap.size rs ys 2 (v 2) w4 := hI.fact 2 (by decide) rfl
  have hB2 : ∀ r, bkO rs 1 (v 1) = some r → w.heap.size ≤ r := fun r h => (hI.blk 1 r (by decide) rfl h).1
  obtain ⟨u, w5, hr, ho5, hg5⟩ := append_ops hI.below.size hn hy F1 b3 F3
  obtain ⟨lu, cu, rfl, hou⟩ := OwnRecs.of_row ho5
  exact ⟨b3, lu, cu, w5, f3, hr, hI.below.grown hg5 hI.below.size hB2, hou.recs⟩

/-- The second effect. -/
theorem ops_copy {w0 w3 : World} {ra : Option Addr} {n c : Nat} {rs ys : List OpR} {u : Value} (hs : w0.heap.size ≤ w3.heap.size) (hn : n * 64 ≤ 140737488351232) (hL : Recs OpE w3 ra n rs) (h : FO w0.heap.size rs ys 0 u w3) :
    ∃ v w', (Builtin.append_ #[22, 22] 22 #[u, .slice ra n c]).run Tryd.prog w3 = .ok v w' ∧ Below w3.heap.size w3 w' ∧ FO w0.heap.size rs ys 1 v w' ∧ ∀ b, bkO rs 1 v = some b → w3.heap.size ≤ b ∧ b < w'.heap.size := by
  obtain ⟨how, b1, rfl⟩ := h
  obtain ⟨u, w', hr, hb, ho, hf1, hf2⟩ := copy_ops w3 w0.heap.size b1 ra n c rs hs hn hL how
  refine ⟨u, w', hr, hb, ⟨by rw [hL.1]; exact ho, fun h => ⟨b1, hf2 (by have := hL.1; omega)⟩⟩, fun b hbk => ?_⟩
  unfold bkO at hbk
  by_cases h0 : rs.length = 0
  · simp [h0] at hbk
  · simp only [h0, if_false] at hbk
    exact ⟨hf1 (by have := hL.1; omega) b hbk, row_lt ho hbk⟩
end Go.Proofs.YtkdbenoleendcaaDoor
