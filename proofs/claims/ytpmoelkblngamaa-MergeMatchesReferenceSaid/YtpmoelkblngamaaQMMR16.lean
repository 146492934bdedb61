/- merge: slices.Compact at scans and at blames: the walks. -/
import Derived.Test.YtpmoelkblngamaaQMMR15
import Derived.Laws.CopyRow
import Derived.Shelf.SlicesE.Kit
import Derived.RangeFuncSeq
import Derived.OwnWalk
import Derived.Lib.SliceRun

namespace Go.Proofs.Ytpmoelkblngamaa
open Go.RowKit Go.IntWalk Go.Maps Go.WideMaps

theorem grown_cell (w : World) (a : Addr) (v : Value) : w.grownBy (w.setCell a v) (some a.block) :=
  ⟨rfl, rfl, rfl, (KeepsWalks.setCell w a v).size, fun k _ hk => Below.heap_setCell _ _ _ k (fun e => hk (by rw [e]))⟩

theorem gtrans {a b c : World} {r : Option Nat} (h : a.grownBy b r) (k : b.grownBy c r) : a.grownBy c r := grown_trans h k

theorem drewN_drew (w : World) (q : Nat) : (w.drewN q).drew = w.drewN (q + 1) := rfl

/-! ### Scn -/
theorem scn_ext (x y : Scn) : x = y ↔ x.gate = y.gate ∧ x.number = y.number ∧ x.time = y.time ∧ x.serial = y.serial ∧ x.kind = y.kind ∧ x.owner = y.owner := by
  obtain ⟨a, b, c, d, e, f⟩ := x
  obtain ⟨a', b', c', d', e', f'⟩ := y
  simp

theorem equal_scn (x y : Scn) (w : World) : Sem.run Try.prog (Op.equalIn 10000 39 (.agg #[.int .i64 x.gate, .int .i64 x.number, .int .i64 x.time, .int .i64 x.serial, .int .i64 x.kind, .string (bs x.owner)]) (.agg #[.int .i64 y.gate, .int .i64 y.number, .int .i64 y.time, .int .i64 y.serial, .int .i64 y.kind, .string (bs y.owner)])) w = .ok (decide (x = y)) w := by
  have u3 := Try.underlying3
  have a3 := Try.isAgg3
  have z3 := Try.sizeOf3
  have u9 := Try.underlying9
  have a9 := Try.isAgg9
  have z9 := Try.sizeOf9
  have hS : Try.prog.underlying 39 = some (.struct (Try.prog.fieldsOf 39)) := by kernel_rfl
  have hp : Try.prog.stoodInHeld 39 = false := by kernel_rfl
  rw [show (10000 : Nat) = 9999 + 1 from rfl, run_equalIn_agg w 9999 39 _ _ hS hp]
  simp only [Program.fieldsOf, Try.underlying39]
  go_simp
  rw [show decide (x = y) = decide (x.gate = y.gate ∧ x.number = y.number ∧ x.time = y.time ∧ x.serial = y.serial ∧ x.kind = y.kind ∧ x.owner = y.owner) from decide_eq_decide.mpr (scn_ext x y)]
  by_cases h0 : x.gate = y.gate <;> by_cases h1 : x.number = y.number <;> by_cases h2 : x.time = y.time <;> by_cases h3 : x.serial = y.serial <;> by_cases h4 : x.kind = y.kind <;> by_cases h5 : x.owner = y.owner <;> simp [h0, h1, h2, h3, h4, h5, bs_toList]
theorem eql_scn (x y : Scn) (w : World) : Sem.run Try.prog (binOp .eql 39 (.agg #[.int .i64 x.gate, .int .i64 x.number, .int .i64 x.time, .int .i64 x.serial, .int .i64 x.kind, .string (bs x.owner)]) (.agg #[.int .i64 y.gate, .int .i64 y.number, .int .i64 y.time, .int .i64 y.serial, .int .i64 y.kind, .string (bs y.owner)])) w = .ok (.bool (decide (x = y))) w := by
  rw [run_eql_struct, equal_scn]
  rfl
theorem neq_scn (x y : Scn) (w : World) : Sem.run Try.prog (binOp .neq 39 (.agg #[.int .i64 x.gate, .int .i64 x.number, .int .i64 x.time, .int .i64 x.serial, .int .i64 x.kind, .string (bs x.owner)]) (.agg #[.int .i64 y.gate, .int .i64 y.number, .int .i64 y.time, .int .i64 y.serial, .int .i64 y.kind, .string (bs y.owner)])) w = .ok (.bool (!decide (x = y))) w := by
  rw [run_neq_struct, equal_scn]
  rfl
theorem guard_scn (op : BinOp) (p q : Operand) (x y : Scn) (w : World) : Sem.run Try.prog (eqGuard op 39 p q (.agg #[.int .i64 x.gate, .int .i64 x.number, .int .i64 x.time, .int .i64 x.serial, .int .i64 x.kind, .string (bs x.owner)]) (.agg #[.int .i64 y.gate, .int .i64 y.number, .int .i64 y.time, .int .i64 y.serial, .int .i64 y.kind, .string (bs y.owner)])) w = .ok () w :=
  run_eqGuard_agg w op 39 p q _ _ (by kernel_rfl)

/-! ### Blm -/
theorem blm_ext (x y : Blm) : x = y ↔ x.kind = y.kind ∧ x.serial = y.serial ∧ x.gate = y.gate ∧ x.number = y.number ∧ x.other = y.other ∧ x.count = y.count := by
  obtain ⟨a, b, c, d, e, f⟩ := x
  obtain ⟨a', b', c', d', e', f'⟩ := y
  simp

theorem equal_blm (x y : Blm) (w : World) : Sem.run Try.prog (Op.equalIn 10000 48 (.agg #[.int .i64 x.kind, .int .i64 x.serial, .int .i64 x.gate, .int .i64 x.number, .int .i64 x.other, .int .i64 x.count]) (.agg #[.int .i64 y.kind, .int .i64 y.serial, .int .i64 y.gate, .int .i64 y.number, .int .i64 y.other, .int .i64 y.count])) w = .ok (decide (x = y)) w := by
  have u3 := Try.underlying3
  have a3 := Try.isAgg3
  have z3 := Try.sizeOf3
  have u9 := Try.underlying9
  have a9 := Try.isAgg9
  have z9 := Try.sizeOf9
  have hS : Try.prog.underlying 48 = some (.struct (Try.prog.fieldsOf 48)) := by kernel_rfl
  have hp : Try.prog.stoodInHeld 48 = false := by kernel_rfl
  rw [show (10000 : Nat) = 9999 + 1 from rfl, run_equalIn_agg w 9999 48 _ _ hS hp]
  simp only [Program.fieldsOf, Try.underlying48]
  go_simp
  rw [show decide (x = y) = decide (x.kind = y.kind ∧ x.serial = y.serial ∧ x.gate = y.gate ∧ x.number = y.number ∧ x.other = y.other ∧ x.count = y.count) from decide_eq_decide.mpr (blm_ext x y)]
  by_cases h0 : x.kind = y.kind <;> by_cases h1 : x.serial = y.serial <;> by_cases h2 : x.gate = y.gate <;> by_cases h3 : x.number = y.number <;> by_cases h4 : x.other = y.other <;> by_cases h5 : x.count = y.count <;> simp [h0, h1, h2, h3, h4, h5]
theorem eql_blm (x y : Blm) (w : World) : Sem.run Try.prog (binOp .eql 48 (.agg #[.int .i64 x.kind, .int .i64 x.serial, .int .i64 x.gate, .int .i64 x.number, .int .i64 x.other, .int .i64 x.count]) (.agg #[.int .i64 y.kind, .int .i64 y.serial, .int .i64 y.gate, .int .i64 y.number, .int .i64 y.other, .int .i64 y.count])) w = .ok (.bool (decide (x = y))) w := by
  rw [run_eql_struct, equal_blm]
  rfl
theorem neq_blm (x y : Blm) (w : World) : Sem.run Try.prog (binOp .neq 48 (.agg #[.int .i64 x.kind, .int .i64 x.serial, .int .i64 x.gate, .int .i64 x.number, .int .i64 x.other, .int .i64 x.count]) (.agg #[.int .i64 y.kind, .int .i64 y.serial, .int .i64 y.gate, .int .i64 y.number, .int .i64 y.other, .int .i64 y.count])) w = .ok (.bool (!decide (x = y))) w := by
  rw [run_neq_struct, equal_blm]
  rfl
theorem guard_blm (op : BinOp) (p q : Operand) (x y : Blm) (w : World) : Sem.run Try.prog (eqGuard op 48 p q (.agg #[.int .i64 x.kind, .int .i64 x.serial, .int .i64 x.gate, .int .i64 x.number, .int .i64 x.other, .int .i64 x.count]) (.agg #[.int .i64 y.kind, .int .i64 y.serial, .int .i64 y.gate, .int .i64 y.number, .int .i64 y.other, .int .i64 y.count])) w = .ok () w :=
  run_eqGuard_agg w op 48 p q _ _ (by kernel_rfl)
end Go.Proofs.Ytpmoelkblngamaa
