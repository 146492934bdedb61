/- ledger: LedgerAtomic: what the region that compares the bookings makes. -/
import Derived.ArgAppend
import Derived.Deep.AppendLies
import Derived.Test.YtafhdpalobalkaaLE7
import Derived.Test.YtafhdpalobalkaaEF
namespace Go.Proofs.Ytafhdpalobalkaa
open Go.RowKit Go.IntWalk Go.Maps Go.ChangeMaps

set_option maxRecDepth 10000 in
theorem bookings_rs (S : Nat → Prop) (g : Nat) (Bs : List BookT) (rs : List RawT) (w : World) (hL : LedRs w S g Bs rs) :
    Calls Try.prog 20 #[.pointer (some ⟨g, 0, none⟩)] w fun e w' => ∃ la k c, e = .returned (.slice la k c) ∧ Below w.heap.size w w' ∧ OwnRecs RawE w' w.heap.size 34 la k rs := by
  obtain ⟨la, n, cc, M, I, hc⟩ := hL
  have HC := Lib.hid hc
  have g0 : w.cell? ⟨g, 0, none⟩ = some (.slice la n cc) := by rw [cell_of_row _ _ _ _ _ _ hc.box]; rfl
  have hn : n ≤ 1000 := by have := hc.num.1; have := hc.ok.len; omega
  clear hc
  go_enter Try.func20, Try.ntmps20
  go_wp2_with fail
  change Calls Try.prog 42 _ _ _
  refine (clone_books la n cc rs w HC.out.recs hn).mono ?_
  rintro e w2 ⟨lb, k, c', rfl, hb2, ho2⟩
  have HB2 := Lib.hid hb2
  have HO2 := Lib.hid ho2
  clear hb2 ho2
  go_wp2_with fail
  go_ret
  exact ⟨lb, k, c', rfl, HB2.out, HO2.out⟩

theorem append_noneB (w : World) (b : Nat) (ra : Option Addr) (c : Nat) : (Builtin.append_ #[22, 22] 22 #[.slice (some ⟨b, 0, none⟩) 0 0, .slice ra 0 c]).run Try.prog w = .ok (.slice (some ⟨b, 0, none⟩) 0 0) w := by
  obtain ⟨i0, hi, hz0, hz1, hz2⟩ := info_parts info_book
  cases ra with
  | none => simp [Builtin.append_, run_underlying Try.underlying22, sizeOf, typeInfo, hi, Builtin.lenOf, Builtin.firstCells, loadCells, loadCellsFrom, storeCells]
  | some ad => simp [Builtin.append_, run_underlying Try.underlying22, sizeOf, typeInfo, hi, Builtin.lenOf, Builtin.firstCells, loadCells, loadCellsFrom, storeCells]

/-- append of bookings to an empty slice, in any world. -/
theorem copy_books (w : World) (B b : Nat) (ra : Option Addr) (n c : Nat) (rs : List RawT) (hB : B ≤ w.heap.size) (hn : n ≤ 100000) (hL : Recs RawE w ra n rs) (h0 : w.ownsRow B 34 2 (.slice (some ⟨b, 0, none⟩) 0 0) 0 []) :
    ∃ v w', (Builtin.append_ #[22, 22] 22 #[.slice (some ⟨b, 0, none⟩) 0 0, .slice ra n c]).run Try.prog w = .ok v w' ∧
    Below w.heap.size w w' ∧ w'.ownsRow B 34 2 v n (flat RawE rs) ∧ (n ≠ 0 → ∀ r, v.ownBlock = some r → w.heap.size ≤ r) ∧ (n = 0 → v = .slice (some ⟨b, 0, none⟩) 0 0) := by
  by_cases hn0 : n = 0
  · subst hn0
    have : rs = [] := List.length_eq_zero_iff.mp hL.1
    subst this
    exact ⟨_, w, append_noneB w b ra c, Below.refl _ _, h0, fun h => absurd rfl h, fun _ => rfl⟩
  · obtain ⟨i0, hi, hz0, hz1, hz2⟩ := info_parts info_book
    obtain ⟨ab, ao, rfl, _⟩ := hL.2 0 (by omega)
    obtain ⟨v', w', hr, h2, h3⟩ := run_append_arg_grows (P := Try.prog) w 22 22 34 i0 _ 2 32 Try.underlying22 hi hz0 hz1 hz2 rfl (by decide) ⟨b, 0, none⟩ 0 0 [] rfl (fun j u hj => by simp at hj) ⟨ab, ao, none⟩ n c (flat RawE rs)
      (by rw [flat_len, hL.1]) (flat_cells hL) (by omega) (by unfold maxLen; omega) (by omega)
    rw [Nat.zero_add, List.nil_append] at h2
    refine ⟨v', w', hr, ⟨h3.os, h3.tape, h3.output, h3.size, fun i hi => h3.block i hi (by simp)⟩, ⟨h2.1, ?_⟩, fun _ r hr => (h2.lt r hr).1, fun h => absurd h hn0⟩
    rcases h2.2 with h4 | ⟨g, cap, cur, e, hb, r⟩
    · exact Or.inl h4
    · exact Or.inr ⟨g, cap, cur, e, Nat.le_trans hB hb, r⟩

theorem row_base {w : World} {B B' k n : Nat} {T : TypeId} {v : Value} {xs : List Value} (hB : B ≤ B') (h : w.ownsRow B' T k v n xs) : w.ownsRow B T k v n xs := by
  refine ⟨h.1, ?_⟩
  rcases h.2 with h4 | ⟨g, cap, cur, e, hb, r⟩
  · exact Or.inl h4
  · exact Or.inr ⟨g, cap, cur, e, Nat.le_trans hB hb, r⟩

/-- What each of the four effects leaves. -/
def FA (B : Nat) (rs rs2 : List RawT) (idb : Int) (rb : Option Addr) (nb cb : Nat) (k : Nat) (u : Value) (w : World) : Prop :=
  match k with
  | 0 => ∃ la n c, u = .slice la n c ∧ OwnRecs RawE w B 34 la n rs2
  | 1 => w.ownsRow B 34 2 u 0 [] ∧ ∃ b, u = .slice (some ⟨b, 0, none⟩) 0 0
  | 2 => w.ownsRow B 34 2 u rs.length (flat RawE rs) ∧ (rs.length = 0 → ∃ b, u = .slice (some ⟨b, 0, none⟩) 0 0)
  | _ => ∃ b, u = .slice (some ⟨b, 0, none⟩) 1 1 ∧ w.heap[b]? = some (.cells #[.int .i64 idb, .slice rb nb cb] 34 (0, 0))

/-- The block that an effect may have laid and that may still be written. -/
def bkA (rs : List RawT) (k : Nat) (u : Value) : Option Nat :=
  match k with
  | 1 => none
  | 2 => if rs.length = 0 then none else u.ownBlock
  | _ => u.ownBlock

theorem FA.below {B : Nat} {rs rs2 : List RawT} {idb : Int} {rb : Option Addr} {nb cb : Nat} (k : Nat) (u : Value) (w w' : World) (h : FA B rs rs2 idb rb nb cb k u w) (hb : Below w.heap.size w w') : FA B rs rs2 idb rb nb cb k u w' := by
  unfold FA at *
  match k with
  | 0 => obtain ⟨la, n, c, e, ho⟩ := h; exact ⟨la, n, c, e, ho.below hb⟩
  | 1 => exact ⟨row_of_heap h.1 (fun r hr => hb.block r (row_lt h.1 hr)), h.2⟩
  | 2 => exact ⟨row_of_heap h.1 (fun r hr => hb.block r (row_lt h.1 hr)), h.2⟩
  | k + 3 => obtain ⟨b, e, r⟩ := h; exact ⟨b, e, (hb.block b (lt_of_block r)).trans r⟩

/-- One booking more, behind the second effect. -/
theorem append_last {w : World} {B : Nat} {rs rs2 : List RawT} {idb : Int} {rb : Option Addr} {nb cb : Nat} {u : Value} (hB : B ≤ w.heap.size) (hn : rs.length ≤ 1000) (h : FA B rs rs2 idb rb nb cb 2 u w) (b : Nat) (hb : w.heap[b]? = some (.cells #[.int .i64 idb, .slice rb nb cb] 34 (0, 0))) :
    ∃ v' w', (Builtin.append_ #[22, 22] 22 #[u, .slice (some ⟨b, 0, none⟩) 1 1]).run Try.prog w = .ok v' w' ∧ w'.ownsRow B 34 2 v' (rs.length + 1) (flat RawE (rs ++ [(idb, (rb, nb, cb))])) ∧ w.grownBy w' (bkA rs 2 u) := by
  obtain ⟨i0, hi, hz0, hz1, hz2⟩ := info_parts info_book
  have hnews : ∀ (j : Nat) (v : Value), ([Value.int .i64 idb, .slice rb nb cb])[j]? = some v → w.cell? ((⟨b, 0, none⟩ : Addr).add j) = some v := by
    intro j v hj
    rw [add_none, Nat.zero_add, cell_of_row _ _ _ _ _ _ hb]
    simpa using hj
  have hfl : flat RawE (rs ++ [(idb, (rb, nb, cb))]) = flat RawE rs ++ [.int .i64 idb, .slice rb nb cb] := by rw [flat_append, flat_single]; rfl
  rw [hfl]
  by_cases h0 : rs.length = 0
  · have hrs : rs = [] := List.length_eq_zero_iff.mp h0
    subst hrs
    obtain ⟨b1, rfl⟩ := h.2 rfl
    obtain ⟨v', w', hr, h2, h3⟩ := run_append_arg_grows (P := Try.prog) w 22 22 34 i0 _ 2 32 Try.underlying22 hi hz0 hz1 hz2 rfl (by decide) ⟨b1, 0, none⟩ 0 0 [] rfl (fun j u hj => by simp at hj) ⟨b, 0, none⟩ 1 1 [.int .i64 idb, .slice rb nb cb]
      rfl hnews (by omega) (by unfold maxLen; omega) (by omega)
    refine ⟨v', w', hr, ⟨h2.1, ?_⟩, h3⟩
    rcases h2.2 with h4 | ⟨g, cap, cur, e, hb, r⟩
    · exact Or.inl h4
    · exact Or.inr ⟨g, cap, cur, e, Nat.le_trans hB hb, r⟩
  · obtain ⟨v', w', hr, h2, h3, _⟩ := run_append_own_at (P := Try.prog) w B 22 22 34 i0 _ 2 32 Try.underlying22 hi hz0 hz1 hz2 rfl (by decide) u rs.length (flat RawE rs) h.1 ⟨b, 0, none⟩ 1 1 [.int .i64 idb, .slice rb nb cb]
      rfl hnews (fun v hv => by simp at hv; rcases hv with rfl | rfl <;> rfl) (by unfold maxLen; omega) (by omega) hB
    exact ⟨v', w', hr, h2, by unfold bkA; rw [if_neg h0]; exact h3⟩

/-- An append whose run is known, as a step of a region; it may stand behind a guard. -/
theorem step_append_w {P : Program} {ops : Array Oper} {o : Oper} {a : Act} {w w' : World} {K : Act → World → Prop} {Q : Exit → Act → World → Prop} {E : Prop} (hw : Region.wanted o (yielded ops a.tmps) = true) (s x : Operand) (t : TypeId)
    (ho : o.op = .call { callee := .builtin .append, args := #[s, x], argTypes := #[t, t] }) {v u res : Value} (ty : TypeId) (hty : o.type = ty)
    (hr : (Builtin.append_ #[t, t] ty #[v, u]).run P w = .ok res w') (hs : a.eval s = v) (hx : a.eval x = u) (h : K (a.put o.dst res) w') : if Region.wanted o (yielded ops a.tmps) = true then Oper.wp P o a w K Q else E := by
  rw [if_pos hw]
  unfold Oper.wp execOp
  simp only [ho, hty, resolve, invoke, builtin, Sem.run_bind, Sem.run_pure, Result.andThen_ok, List.map_toArray, List.map_cons, List.map_nil, hs, hx, hr]
  exact h

theorem books_snoc {w : World} {la : Option Addr} {n : Nat} {rs : List RawT} {Cs : List BookT} {r : RawT} {b : BookT} (hr : Recs RawE w la n (rs ++ [r])) (hl : rs.length = Cs.length)
    (hp : ∀ i (h1 : i < rs.length) (h2 : i < Cs.length), rs[i].1 = Cs[i].1 ∧ Posts w rs[i].2.1 rs[i].2.2.1 Cs[i].2) (he : r.1 = b.1) (hb : Posts w r.2.1 r.2.2.1 b.2) : Books w la n (Cs ++ [b]) := by
  refine ⟨rs ++ [r], hr, by simp [hl], fun i h1 h2 => ?_⟩
  by_cases hi : i < rs.length
  · rw [List.getElem_append_left hi, List.getElem_append_left (by omega)]
    exact hp i hi (by omega)
  · have : i = rs.length := by simp at h1; omega
    subst this
    rw [List.getElem_append_right (Nat.le_refl _), List.getElem_append_right (by omega)]
    simp [hl]
    exact ⟨he, hb⟩

/-- What each of the four effects leaves, in the comparison of one account. -/
def FC (x0 x1 x3 : Int) (idb : Int) (rb : Option Addr) (nb cb : Nat) (k : Nat) (u : Value) (w : World) : Prop :=
  match k with
  | 0 => u = .int .i64 x0
  | 1 => u = .int .i64 x1
  | 2 => ∃ b, u = .slice (some ⟨b, 0, none⟩) 1 1 ∧ w.heap[b]? = some (.cells #[.int .i64 idb, .slice rb nb cb] 34 (0, 0))
  | _ => u = .int .i64 x3

theorem FC.below {x0 x1 x3 : Int} {idb : Int} {rb : Option Addr} {nb cb : Nat} (k : Nat) (u : Value) (w w' : World) (h : FC x0 x1 x3 idb rb nb cb k u w) (hb : Below w.heap.size w w') : FC x0 x1 x3 idb rb nb cb k u w' := by
  unfold FC at *
  match k with
  | 0 => exact h
  | 1 => exact h
  | 2 => obtain ⟨b, e, r⟩ := h; exact ⟨b, e, (hb.block b (lt_of_block r)).trans r⟩
  | k + 3 => exact h
end Go.Proofs.Ytafhdpalobalkaa
