/- merge: foyerlaw38.scan: the walk; A take in a drawn region, its slot named. -/
import Derived.Test.YtpmoelkblngamaaQMMR00
import Derived.Test.YtpmoelkblngamaaQMMR20
import Derived.Lib.SmallJoins
import Derived.Laws.Rows
import Derived.Deep.RegionHeldLaw
import Derived.Deep.RegionHeld3

namespace Go.Proofs.Ytpmoelkblngamaa
open Go.RowKit Go.IntWalk Go.Maps Go.WideMaps

set_option maxRecDepth 10000 in
theorem scan_any (g n t s k : Int) (w : World) : Calls Try.prog 25 #[.int .i64 g, .int .i64 n, .int .i64 t, .int .i64 s, .int .i64 k] w fun e w' => e = .returned (.agg #[.int .i64 g, .int .i64 n, .int .i64 t, .int .i64 s, .int .i64 k, .string (bs [])]) ∧ Below w.heap.size w w' := by
  go_enter Try.func25, Try.ntmps25
  go_wp2_with fail
  exact bodyPost_ret (v := .agg #[.int .i64 g, .int .i64 n, .int .i64 t, .int .i64 s, .int .i64 k, .string (bs [])]) (results_cell_row rfl _ _ w.heap.size 39 _ (0, 0) _ rfl (World.alloc_heap_new w _) Try.underlying39 rfl rfl) rfl ⟨rfl, Joins.below_alloc1 _ _⟩
end Go.Proofs.Ytpmoelkblngamaa

namespace Go.Proofs.Ytpmoelkblngamaa
section
variable {P : Program} {ops : Array Oper} {Q : Exit → Act → World → Prop} {md : Region.Mode} {S : World → Prop}

theorem take_at {i : Nat} {oi : Oper} {v : Value} {fuel : Nat} {listed : Array Bool} {a : Act} {w : World} (d : Tmp) (hi : ops[i]? = some oi) (hd : oi.dst = some d)
    (hs : Region.noSelect ops = true) (hf : Region.free md ops listed i = true) (hr : (Region.ready md ops listed).contains i = true)
    (hQ : ∀ c a w, Q (.panic c) (a.put oi.dst v) w → Q (.panic c) a w) (hy : YieldsIf P ops S oi v a) (hS : S w)
    (h : wpAnyH P md ops Q S fuel (listed.setIfInBounds i true) (a.put (some d) v) w) : wpAnyH P md ops Q S (fuel + 1) listed a w :=
  wpAnyH_take hi hs hf hr hQ hy hS (by rw [hd]; exact h)
end
theorem step_append_w {P : Program} {ops : Array Oper} {o : Oper} {a : Act} {w w' : World} {K : Act → World → Prop} {Q : Exit → Act → World → Prop} {E : Prop} (hw : Region.wanted o (yielded ops a.tmps) = true) (s x : Operand) (t : TypeId)
    (ho : o.op = .call { callee := .builtin .append, args := #[s, x], argTypes := #[t, t] }) {v u res : Value} (ty : TypeId) (hty : o.type = ty)
    (hr : (Builtin.append_ #[t, t] ty #[v, u]).run P w = .ok res w') (hs : a.eval s = v) (hx : a.eval x = u) (h : K (a.put o.dst res) w') : if Region.wanted o (yielded ops a.tmps) = true then Oper.wp P o a w K Q else E := by
  rw [if_pos hw]
  unfold Oper.wp execOp
  simp only [ho, hty, resolve, invoke, builtin, Sem.run_bind, Sem.run_pure, Result.andThen_ok, List.map_toArray, List.map_cons, List.map_nil, hs, hx, hr]
  exact h
end Go.Proofs.Ytpmoelkblngamaa
