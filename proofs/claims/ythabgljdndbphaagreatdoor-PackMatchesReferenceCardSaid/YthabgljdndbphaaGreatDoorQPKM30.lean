/- pack.Solve: what its deferred closure does; frames with deferred calls. -/
import Derived.Test.YthabgljdndbphaaGreatDoorQPKM29

set_option linter.unusedVariables false
set_option linter.unusedSimpArgs false
namespace Go.Proofs.YthabgljdndbphaaGreatDoor
open Go.RowKit Go.IntWalk Go.Maps Go.WideMaps
set_option linter.unusedSimpArgs false
set_option linter.unusedVariables false

section
variable {P : Program} {ops : Array Oper} {Q : Exit → Act → World → Prop} {N : Nat} {ds : List Deferred} {e : List (Nat × Value)} {w : World} {a : Act} {KA : Act → World → Prop} {n : Nat}
theorem enter_frD {f : FuncId} {fn : Func} {c : Code} (args : List Value) {R : Ending → World → Prop} (hf : P.funcs[f]? = some fn) (hb : fn.body = some c) (hN : fn.ntmps = N) (hl : Nat.ble args.length N = true)
  (h : ∀ a, FrF N [] (argsF 0 args) a → c.wp P (bodyPostD P fn R) a w) : Calls P f args.toArray w R := by
 have hl' : args.length ≤ N := by simpa [Nat.ble_eq] using hl
 refine calls_of_wp_defers hf hb (h _ ⟨?_, rfl, fun t v hv => ?_⟩)
 ·
  simp [hN]; omega
 ·
  obtain ⟨_, h2⟩ := argsF_look 0 args t v hv
  simp only [Nat.sub_zero] at h2
  have ht : t < args.length := by
   rcases Nat.lt_or_ge t args.length with h | h
   ·
    exact h
   ·
    rw [List.getElem?_eq_none h] at h2; cases h2
  rw [Array.getElem?_append_left (by simpa using ht)]
  simpa using h2
/-- Three results that lie in variables. -/
theorem results3 {fn : Func} {s1 s2 s3 : Tmp} {t1 t2 t3 : TypeId} {a1 a2 a3 : Addr} {v1 v2 v3 : Value} (hrs : fn.results = #[.cell s1 t1, .cell s2 t2, .cell s3 t3]) (hF : FrF N ds e a)
  (h1 : lookF e s1 = some (.pointer (some a1))) (h2 : lookF e s2 = some (.pointer (some a2))) (h3 : lookF e s3 = some (.pointer (some a3)))
  (l1 : (loadVar t1 a1).run P w = .ok v1 w) (l2 : (loadVar t2 a2).run P w = .ok v2 w) (l3 : (loadVar t3 a3).run P w = .ok v3 w) : (results fn a.tmps).run P w = .ok (.tuple #[v1, v2, v3]) w := by
 have q1 := hF.slot s1 _ h1
 have q2 := hF.slot s2 _ h2
 have q3 := hF.slot s3 _ h3
 unfold results
 rw [hrs]
 simp [q1, q2, q3, asAddr, l1, l2, l3]
end

/-- What Solve keeps in variables: the problem, its results. -/
structure SvM (w0 w : World) (pB bx bp be : Nat) (pa : Array Value) (x1 x2 y1 z1 : Value) : Prop where
 below : Below w0.heap.size w0 w
 prob : w.heap[pB]? = some (.cells pa 25 (0, 0))
 x : w.heap[bx]? = some (.cells #[x1, x2] 31 (0, 0))
 y : w.heap[bp]? = some (.cells #[y1] 34 (0, 0))
 z : w.heap[be]? = some (.cells #[z1] 35 (0, 0))
 new : w0.heap.size ≤ bx ∧ w0.heap.size ≤ bp ∧ w0.heap.size ≤ be
section
variable {w0 w w' : World} {pB bx bp be : Nat} {pa : Array Value} {x1 x2 y1 z1 : Value}
theorem SvM.down (h : SvM w0 w pB bx bp be pa x1 x2 y1 z1) (hb : Below w.heap.size w w') : SvM w0 w' pB bx bp be pa x1 x2 y1 z1 :=
 ⟨h.below.trans (hb.mono h.below.size), (hb.block _ (lt_of_block h.prob)).trans h.prob, (hb.block _ (lt_of_block h.x)).trans h.x, (hb.block _ (lt_of_block h.y)).trans h.y, (hb.block _ (lt_of_block h.z)).trans h.z, h.new⟩
theorem SvM.tupd {S : TypeId → Prop} (h : SvM w0 w pB bx bp be pa x1 x2 y1 z1) (ht : TUpd S w w') (hb : Below w0.heap.size w0 w') (h1 : ¬ S 25) (h2 : ¬ S 31) (h3 : ¬ S 34) (h4 : ¬ S 35) : SvM w0 w' pB bx bp be pa x1 x2 y1 z1 :=
 ⟨hb, ht.keep h.prob h1, ht.keep h.x h2, ht.keep h.y h3, ht.keep h.z h4, h.new⟩
theorem tupd_row {g : Nat} {old : Array Value} {T : TypeId} (hb : w.heap[g]? = some (.cells old T (0, 0))) (B : Array Value) : TUpd (fun X => X = T) w (w.setRow g B) :=
 ⟨rfl, rfl, rfl, by simp [World.setRow], fun c o hc hS => by
  by_cases e : g = c
  ·
   subst e
   rw [hb] at hc
   cases hc
   exact absurd rfl (hS _ _ _ rfl)
  ·
   simp [World.setRow, Array.getElem?_modify, e]
   exact hc⟩
theorem SvM.setX (h : SvM w0 w pB bx bp be pa x1 x2 y1 z1) (u1 u2 : Value) : SvM w0 (w.setRow bx #[u1, u2]) pB bx bp be pa u1 u2 y1 z1 := by
 have ht := tupd_row h.x #[u1, u2]
 exact ⟨below_setRow h.below h.new.1 _, ht.keep h.prob (by decide), setRow_heap _ _ _ _ _ (0, 0) h.x, ht.keep h.y (by decide), ht.keep h.z (by decide), h.new⟩
theorem SvM.setY (h : SvM w0 w pB bx bp be pa x1 x2 y1 z1) (u1 : Value) : SvM w0 (w.setRow bp #[u1]) pB bx bp be pa x1 x2 u1 z1 := by
 have ht := tupd_row h.y #[u1]
 exact ⟨below_setRow h.below h.new.2.1 _, ht.keep h.prob (by decide), ht.keep h.x (by decide), setRow_heap _ _ _ _ _ (0, 0) h.y, ht.keep h.z (by decide), h.new⟩
theorem SvM.setZ (h : SvM w0 w pB bx bp be pa x1 x2 y1 z1) (u : Value) : SvM w0 (w.setCell ⟨be, 0, none⟩ u) pB bx bp be pa x1 x2 y1 u := by
 have ht := tupd_set (j := 0) h.z u
 refine ⟨h.below.setCell (by show _ ≤ be; exact h.new.2.2) _, ht.keep h.prob (by decide), ht.keep h.x (by decide), ht.keep h.y (by decide), ?_, h.new⟩
 simp [World.setCell, Array.getElem?_modify, h.z]
theorem SvM.loadX (h : SvM w0 w pB bx bp be pa x1 x2 y1 z1) : (loadVar 31 ⟨bx, 0, none⟩).run Tryz.prog w = .ok (.agg #[x1, x2]) w := by
 have c0 := boxed_cell (j := 0) h.x rfl
 have c1 := boxed_cell (j := 1) h.x rfl
 go_simp
theorem SvM.loadY (h : SvM w0 w pB bx bp be pa x1 x2 y1 z1) : (loadVar 34 ⟨bp, 0, none⟩).run Tryz.prog w = .ok (.agg #[y1]) w := by
 have c0 := boxed_cell (j := 0) h.y rfl
 go_simp
theorem SvM.loadZ (h : SvM w0 w pB bx bp be pa x1 x2 y1 z1) : (loadVar 35 ⟨be, 0, none⟩).run Tryz.prog w = .ok z1 w := by
 have c0 := boxed_cell (j := 0) h.z rfl
 go_simp
end

theorem fr4 {v0 v1 v2 v3 : Value} {N : Nat} {tm : Array Value} (hs : tm.size = N) (h0 : tm[0]? = some v0) (h1 : tm[1]? = some v1) (h2 : tm[2]? = some v2) (h3 : tm[3]? = some v3) : FrF N [] [(0, v0), (1, v1), (2, v2), (3, v3)] { tmps := tm, defers := [] } := by
 refine ⟨hs, rfl, fun t v hv => ?_⟩
 match t, hv with
 | 0, hv => cases hv; exact h0
 | 1, hv => cases hv; exact h1
 | 2, hv => cases hv; exact h2
 | 3, hv => cases hv; exact h3
 | t + 4, hv => cases hv
theorem act_fr4 (v0 v1 v2 v3 : Value) {P : Program} {c : Code} {Q : Exit → Act → World → Prop} {w : World} {N : Nat} {tm : Array Value} (hs : tm.size = N) (h0 : tm[0]? = some v0) (h1 : tm[1]? = some v1) (h2 : tm[2]? = some v2) (h3 : tm[3]? = some v3)
  (h : ∀ a, FrF N [] [(0, v0), (1, v1), (2, v2), (3, v3)] a → c.wp P Q a w) : c.wp P Q { tmps := tm, defers := [] } w := h _ (fr4 hs h0 h1 h2 h3)
/-- The frame returns: nothing is there to recover. -/
theorem solve1_idle (bx bp be : Nat) (w : World) :
  CallsD Tryz.prog 23 #[.pointer (some ⟨bx, 0, none⟩), .pointer (some ⟨bp, 0, none⟩), .pointer (some ⟨be, 0, none⟩)] .returning w fun e u' w' => e = .returned (.tuple #[]) ∧ u' = .returning ∧ w' = w := by
 refine callsD_of_wpS Tryz.func23 rfl fun c₀ cs hu => ?_
 apply wpS_seq
 apply wpS_region
 simp [wpOpsS, go_sem, recoverD, hu, Tryz.ntmps23, Exit.thenS]
 refine wpS_of_wp ?_
 refine act_fr4 (N := 19) (.pointer (some ⟨bx, 0, none⟩)) (.pointer (some ⟨bp, 0, none⟩)) (.pointer (some ⟨be, 0, none⟩)) .nilIface (by simp) (by simp) (by simp) (by simp) (by simp) ?_
 intro a hF
 revert hF;refine zrs [1, 4] [0, 1, 2, 3, 8] fun a hF => ?_
 refine cond_no hF rfl ?_
 refine wp_skip ?_
 refine ⟨hF.defers, .returning, ?_, _, results_none rfl _ _ _, rfl, rfl, rfl⟩
 cases c₀
 simp_all
/-- The frame ends by the panic that means: the proof is too long. -/
theorem solve1_full (w0 w : World) (pB bx bp be : Nat) (pa : Array Value) (x1 x2 y1 z1 : Value) (h : SvM w0 w pB bx bp be pa x1 x2 y1 z1) :
  CallsD Tryz.prog 23 #[.pointer (some ⟨bx, 0, none⟩), .pointer (some ⟨bp, 0, none⟩), .pointer (some ⟨be, 0, none⟩)] (.panicking fullC) w fun e u' w' =>
   e = .returned (.tuple #[]) ∧ u' = .panicking [{ v := .iface 55 (.agg #[]), recovered := true }] ∧ SvM w0 w' pB bx bp be pa (.slice none 0 0) (.int .i64 0) (.slice none 0 0) (.int .i64 3) := by
 have H := Lib.hid h
 clear h
 unfold fullC
 refine callsD_of_wpS Tryz.func23 rfl fun c₀ cs hu => ?_
 apply wpS_seq
 apply wpS_region
 simp [wpOpsS, go_sem, recoverD, hu, Tryz.ntmps23, Exit.thenS]
 refine wpS_of_wp ?_
 refine act_fr4 (N := 19) (.pointer (some ⟨bx, 0, none⟩)) (.pointer (some ⟨bp, 0, none⟩)) (.pointer (some ⟨be, 0, none⟩)) (.iface 55 (.agg #[])) (by simp) (by simp) (by simp) (by simp) (by simp) ?_
 intro a hF
 revert hF;refine zrs [1, 4] [0, 1, 2, 3, 8] fun a hF => ?_
 refine cond_yes hF rfl ?_
 have hta : ∀ wx, (Instr.typeAssert (.iface 55 (.agg #[])) 20 55 true).run Tryz.prog wx = .ok (.tuple #[.agg #[], .bool true]) wx := fun wx => by
  have hu0 : Tryz.prog.underlying 55 = some (.struct #[]) := Tryz.underlying55
  simp [Instr.typeAssert, run_underlying hu0, Result.andThen]
 refine wp_seq_k (fun K hK => ?_);refine wp_seq_k (fun K hK => ?_);revert hF;refine zrp [1, 4, 1, 4, 4] [5, 6, 7] fun a hF => ?_;refine seq_one ?_;revert hF;refine qe0 fun a hF => ?_
 have HB := Lib.hid (Joins.below_alloc1 w (.cells #[] 55))
 have hst : (Instr.storeAt 55 (.pointer (some ⟨w.heap.size, 0, none⟩)) (.agg #[])).run Tryz.prog (w.alloc (.cells #[] 55)) = .ok () (w.alloc (.cells #[] 55)) := by
  go_simp
 refine seq_one ?_;revert hF;refine qu2 fun a hF => ?_;revert hF;refine zre 7 [2] [0, 1, 2, 3, 5] fun a hF => ?_
 clear hst
 generalize w.alloc (.cells #[] 55) = w1 at *
 have H1 := Lib.hid (H.out.down HB.out)
 clear H HB
 refine hK _ _ ?_;clear hK
 clear hta
 revert hF;refine zrs [1, 4] [0, 1, 2, 3, 15] fun a hF => ?_
 refine cond_no hF rfl ?_
 refine wp_skip ?_
 refine hK _ _ ?_;clear hK
 have hSV := run_storeVar_row (P := Tryz.prog) w1 bx 31 31 #[x1, x2] #[.slice none 0 0, .int .i64 0] H1.out.x (by kernel_rfl) rfl (by simp [Value.oneCell'])
 have H2 := Lib.hid (H1.out.setX (.slice none 0 0) (.int .i64 0))
 clear H1
 revert hF;refine zrp [3, 3] [2, 3, 4] fun a hF => ?_;refine seq_one ?_;refine op_storev rfl rfl hF rfl rfl rfl rfl hSV ?_;clear hF;refine fun a hF => ?_
 clear hSV
 generalize w1.setRow bx #[.slice none 0 0, .int .i64 0] = w2 at *
 have hSV := run_storeVar_row (P := Tryz.prog) w2 bp 34 34 #[y1] #[.slice none 0 0] H2.out.y (by kernel_rfl) rfl (by simp [Value.oneCell'])
 have H3 := Lib.hid (H2.out.setY (.slice none 0 0))
 clear H2
 refine seq_one ?_;refine op_storev rfl rfl hF rfl rfl rfl rfl hSV ?_;clear hF;refine fun a hF => ?_
 clear hSV
 generalize w2.setRow bp #[.slice none 0 0] = w3 at *
 have z0 := boxed_cell (j := 0) H3.out.z rfl
 have f0 := Joins.unfrozen_of_block H3.out.z 0
 have H4 := Lib.hid (H3.out.setZ (.int .i64 3))
 clear H3
 refine seq_one ?_;revert hF;refine qu1 fun a hF => ?_
 clear z0 f0
 refine seq_end ?_;replace hF := hF.kp [] rfl
 refine ⟨hF.defers, _, rfl, _, results_none rfl _ _ _, rfl, rfl, H4.out⟩
end Go.Proofs.YthabgljdndbphaaGreatDoor
