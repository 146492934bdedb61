/- foyerref23.Solve: what it keeps in variables. -/
import Derived.Test.YthabgljdndbphaaGreatDoorQPKM42
import Derived.Test.YthabgljdndbphaaGreatDoorQPKM46

set_option linter.unusedVariables false
set_option linter.unusedSimpArgs false
namespace Go.Proofs.YthabgljdndbphaaGreatDoor
open Go.RowKit Go.IntWalk Go.Maps Go.WideMaps
set_option linter.unusedSimpArgs false
set_option linter.unusedVariables false

theorem wsteps_mem {wI w : World} {A : PA} {T : List StepT} {X : Nat → Prop} (h : WrkM wI w A T X) : ∃ pa l pc, w.heap[A.wb]? = some (.cells #[.slice A.ra A.rn A.rc, .slice A.ga A.m A.gc, .bool A.single, .int .i64 A.val, .slice pa l pc, .bool false] 68 (0, 0)) ∧ l = T.length ∧
  ∀ w', (∀ (b : Nat) (arr : Array Value) (Ty : TypeId), w.heap[b]? = some (.cells arr Ty (0, 0)) → Ty = 3 ∨ Ty = 71 → w'.heap[b]? = some (.cells arr Ty (0, 0))) → Steps w' pa l T := by
 obtain ⟨v, Tr, hbx, ho, hs⟩ := h.box
 obtain ⟨la, c, rfl, _⟩ := Rcs.of_own ho
 have hl := hs.1
 rw [hl] at hbx ho
 refine ⟨la, T.length, c, hbx, rfl, fun w' hk => ⟨rfl, fun n hn => ?_⟩⟩
 have hn2 : n < Tr.length := by rw [hl]; exact hn
 obtain ⟨gS, c2, e, _, _, _, hrow⟩ := RecRow.of_row (by omega) ho
 cases e
 have hst := hs.2 n hn2 hn
 have hsa : stepAt T n = T[n] := by unfold stepAt; simp [hn]
 rw [hsa]
 have hcell : ∀ (b o : Nat) (v : Value), w.cell? ⟨b, o, none⟩ = some v → (∀ cur, w.heap[b]? = some (.cells cur 3 (0, 0)) ∨ w.heap[b]? = some (.cells cur 71 (0, 0)) → True) → (∃ cur Ty, w.heap[b]? = some (.cells cur Ty (0, 0)) ∧ (Ty = 3 ∨ Ty = 71)) → w'.cell? ⟨b, o, none⟩ = some v := fun b o v hc _ ⟨cur, Ty, h1, h2⟩ => by
  rw [World.cell?_of_block (w := w) (w' := w') (a := ⟨b, o, none⟩) (by rw [hk b cur Ty h1 h2, h1])]
  exact hc
 obtain ⟨curS, hcS⟩ := own_type ho (r := gS) rfl
 have k0 := hrow.cell n 0 hn2 (by omega)
 have k1 := hrow.cell n 1 hn2 (by omega)
 have k2 := hrow.cell n 2 hn2 (by omega)
 rw [rc_eq _ _ hn2] at k0 k1 k2
 have e0 : (StepE.cells Tr[n]).getD 0 (.bool false) = .int .i64 T[n].kind := by rw [← hst.kind]; rfl
 have e1 : (StepE.cells Tr[n]).getD 1 (.bool false) = .int .i64 T[n].group := by rw [← hst.group]; rfl
 have e2 : (StepE.cells Tr[n]).getD 2 (.bool false) = .slice Tr[n].ka T[n].kids.length Tr[n].kc := by rw [← hst.num]; rfl
 rw [e0] at k0
 rw [e1] at k1
 rw [e2] at k2
 refine ⟨gS, 0, Tr[n].ka, Tr[n].kc, rfl, ?_, ?_, ?_, ?_⟩
 ·
  rw [Nat.zero_add]
  exact hcell _ _ _ k0 (fun _ _ => trivial) ⟨curS, _, hcS, Or.inr rfl⟩
 ·
  rw [Nat.zero_add]
  exact hcell _ _ _ k1 (fun _ _ => trivial) ⟨curS, _, hcS, Or.inr rfl⟩
 ·
  rw [Nat.zero_add]
  exact hcell _ _ _ k2 (fun _ _ => trivial) ⟨curS, _, hcS, Or.inr rfl⟩
 ·
  have hkd := hst.kids
  rw [hst.num] at hkd
  have hkd2 : w.ownsRow wI.heap.size 3 1 (.slice Tr[n].ka T[n].kids.length Tr[n].kc) T[n].kids.length (flat IntE T[n].kids) := by rw [flat_int]; exact hkd
  obtain ⟨la2, c3, e3, hrc, _⟩ := Rcs.of_own hkd2
  cases e3
  refine ⟨rfl, fun j hj => ?_⟩
  obtain ⟨b, o, e4, cc⟩ := hrc.2 j hj
  have c0 := cc 0 (by omega)
  rw [rc_eq _ _ hj] at c0
  refine ⟨b, o, e4, ?_⟩
  have ej : ix T[n].kids j = T[n].kids[j] := ix_get hj
  rw [ej]
  rw [Nat.mul_one, Nat.add_zero] at c0
  refine hcell b (o + j) _ c0 (fun _ _ => trivial) ?_
  obtain ⟨cur, hc⟩ := own_type hkd (r := b) (by rw [e4]; rfl)
  exact ⟨cur, _, hc, Or.inl rfl⟩
/-- Two results in variables, one at hand. -/
theorem ret_cct {P : Program} {N : Nat} {e : List (Nat × Value)} {w : World} {a : Act} {fn : Func} {s1 s2 s3 : Tmp} {t1 t2 : TypeId} {a1 a2 : Addr} {v1 v2 v3 : Value} {R : Ending → World → Prop} (hrs : fn.results = #[.cell s1 t1, .cell s2 t2, .tmp s3]) (hF : FrF N [] e a)
  (h1 : lookF e s1 = some (.pointer (some a1))) (h2 : lookF e s2 = some (.pointer (some a2))) (h3 : lookF e s3 = some v3) (l1 : (loadVar t1 a1).run P w = .ok v1 w) (l2 : (loadVar t2 a2).run P w = .ok v2 w) (hR : R (.returned (.tuple #[v1, v2, v3])) w) : bodyPost P fn R .ret a w := by
 refine ⟨hF.defers, .tuple #[v1, v2, v3], ?_, hR⟩
 have q1 := hF.slot s1 _ h1
 have q2 := hF.slot s2 _ h2
 have q3 := hF.slot s3 _ h3
 unfold results
 rw [hrs]
 simp [q1, q2, q3, asAddr, l1, l2]
/-- The problem, the results. -/
structure RvM (w0 w : World) (pB bx bp : Nat) (pa : Array Value) (x1 x2 y1 : Value) : Prop where
 below : Below w0.heap.size w0 w
 prob : w.heap[pB]? = some (.cells pa 25 (0, 0))
 x : w.heap[bx]? = some (.cells #[x1, x2] 31 (0, 0))
 y : w.heap[bp]? = some (.cells #[y1] 34 (0, 0))
 new : w0.heap.size ≤ bx ∧ w0.heap.size ≤ bp
section
variable {w0 w w' : World} {pB bx bp : Nat} {pa : Array Value} {x1 x2 y1 : Value}
theorem RvM.down (h : RvM w0 w pB bx bp pa x1 x2 y1) (hb : Below w.heap.size w w') : RvM w0 w' pB bx bp pa x1 x2 y1 :=
 ⟨h.below.trans (hb.mono h.below.size), (hb.block _ (lt_of_block h.prob)).trans h.prob, (hb.block _ (lt_of_block h.x)).trans h.x, (hb.block _ (lt_of_block h.y)).trans h.y, h.new⟩
theorem RvM.setX (h : RvM w0 w pB bx bp pa x1 x2 y1) (u1 u2 : Value) : RvM w0 (w.setRow bx #[u1, u2]) pB bx bp pa u1 u2 y1 := by
 have ht := tupd_row h.x #[u1, u2]
 exact ⟨below_setRow h.below h.new.1 _, ht.keep h.prob (by decide), setRow_heap _ _ _ _ _ (0, 0) h.x, ht.keep h.y (by decide), h.new⟩
theorem RvM.setY (h : RvM w0 w pB bx bp pa x1 x2 y1) (u1 : Value) : RvM w0 (w.setRow bp #[u1]) pB bx bp pa x1 x2 u1 := by
 have ht := tupd_row h.y #[u1]
 exact ⟨below_setRow h.below h.new.2 _, ht.keep h.prob (by decide), ht.keep h.x (by decide), setRow_heap _ _ _ _ _ (0, 0) h.y, h.new⟩
theorem RvM.loadX (h : RvM w0 w pB bx bp pa x1 x2 y1) : (loadVar 31 ⟨bx, 0, none⟩).run Tryz.prog w = .ok (.agg #[x1, x2]) w := by
 have c0 := boxed_cell (j := 0) h.x rfl
 have c1 := boxed_cell (j := 1) h.x rfl
 go_simp
theorem RvM.loadY (h : RvM w0 w pB bx bp pa x1 x2 y1) : (loadVar 34 ⟨bp, 0, none⟩).run Tryz.prog w = .ok (.agg #[y1]) w := by
 have c0 := boxed_cell (j := 0) h.y rfl
 go_simp
/-- Pairs do not lie where a variable of other values lies. -/
theorem pairs_row {g n : Nat} {sa : Option Addr} {old B : Array Value} {T : TypeId} {S : List (Int × Int)} (hb : w.heap[g]? = some (.cells old T (0, 0))) (ho : ∀ (j : Nat) (x y : Int), old[j]? = some (.int .i64 x) → old[j + 1]? = some (.int .i64 y) → False) (h : Pairs w sa n S) : Pairs (w.setRow g B) sa n S :=
 ⟨h.1, fun k hk => by
  obtain ⟨b, o, e, c0, c1⟩ := h.2 k hk
  have hne : b ≠ g := fun e2 => by
   rw [e2] at c0 c1
   rw [cell_of_row (j := o + k * 2) _ _ _ _ _ hb] at c0
   rw [cell_of_row (j := o + k * 2 + 1) _ _ _ _ _ hb] at c1
   exact ho _ _ _ c0 c1
  have hh : (w.setRow g B).heap[b]? = w.heap[b]? := by simp [World.setRow, Array.getElem?_modify, Ne.symm hne]
  exact ⟨b, o, e, by rw [World.cell?_of_block (a := ⟨b, o + k * 2, none⟩) hh]; exact c0, by rw [World.cell?_of_block (a := ⟨b, o + k * 2 + 1, none⟩) hh]; exact c1⟩⟩
theorem RvM.pairsX {n : Nat} {sa s1 : Option Addr} {n1 k1 : Nat} {v : Value} {S : List (Int × Int)} {B : Array Value} (h : RvM w0 w pB bx bp pa (.slice s1 n1 k1) v y1) (hp : Pairs w sa n S) : Pairs (w.setRow bx B) sa n S :=
 pairs_row h.x (fun j x y h1 h2 => by
  match j, h1, h2 with
  | 0, h1, _ => simp at h1
  | j + 1, _, h2 => simp at h2) hp
theorem RvM.pairsY {n : Nat} {sa s1 : Option Addr} {n1 k1 : Nat} {S : List (Int × Int)} {B : Array Value} (h : RvM w0 w pB bx bp pa x1 x2 (.slice s1 n1 k1)) (hp : Pairs w sa n S) : Pairs (w.setRow bp B) sa n S :=
 pairs_row h.y (fun j x y h1 h2 => by
  match j, h1, h2 with
  | 0, h1, _ => simp at h1
  | j + 1, _, h2 => simp at h2) hp
end
end Go.Proofs.YthabgljdndbphaaGreatDoor
