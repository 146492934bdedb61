/- What an argument's reading gives the walks of holds: operations, a number, a byte, a list of numbers; the witness of a row that lists variables. -/
import Derived.Test.YtkdbenoleendcaaGreatDoorQHMB33
import Derived.Test.YtkdbenoleendcaaGreatDoorRows
import Derived.ProofKit
import Derived.OpenShut
import Derived.ChangeOld
import Derived.Below
import Derived.Deep.SlicePairs
import Derived.Deep.Slices
import Derived.Lib.SmallJoins
import Derived.ChangeMaps5
import Derived.Deep.DeepHandedRow

namespace Go.Proofs.YtkdbenoleendcaaGreatDoor
open Go.ChangeShapes Go.WideShapes Go.ChangeAt Go.RowKit Go.Deep Go.Joins

section
variable {H : Type} {enc : TypeId × Value → H} {w : World} {base : Nat} {held : Bool}

theorem add_whole (b o k : Nat) : (⟨b, o, none⟩ : Addr).add k = ⟨b, o + k, none⟩ := by
  unfold Addr.add; split
  · subst_vars; rfl
  · rfl

theorem whole_of {b o : Nat} {s} {v : Value} (h : w.cell? ((Addr.mk b o s).add 0) = some v) : s = none := by
  simpa [Addr.add] using World.cell?_spot h

theorem ints_read {fuel : Nat} {v : Value} {x : DataW H × List MemPlace} (h : DataW.trod enc Tryz.prog w base (fun _ => true) held fuel 29 [v] = some x) :
    ∃ (ra : Option Addr) (n c : Nat) (R : List Int), v = .slice ra n c ∧ n ≤ 9223372036854775807 ∧ n ≤ c ∧ Ints w ra n R := by
  rcases open_ints Tryz.underlying29 Tryz.underlying3 (by kernel_rfl) h with ⟨hcs, _⟩ | ⟨x, l, c, zs, hcs, _, hl, hm, hz, _, hcell, hwz⟩
  · simp at hcs
    subst hcs
    exact ⟨none, 0, 0, [], rfl, by omega, Nat.le_refl _, rfl, fun k hk => absurd hk (by omega)⟩
  · simp at hcs
    subst hcs
    obtain ⟨b, o, s⟩ := x
    have hz' : zs.length = c := by simpa using hz
    unfold maxLen at hm
    refine ⟨some ⟨b, o, s⟩, l, c, zs.take l, rfl, by omega, hl, by rw [List.length_take]; omega, fun k hk => ?_⟩
    have hc := hcell k (by omega)
    have hs : s = none := whole_of (hcell 0 (by omega))
    subst hs
    refine ⟨b, o, rfl, ?_⟩
    have e : ix (zs.take l) k = zs.getD k 0 := by unfold ix; simp [List.getD, hk]
    rw [e]
    exact (add_whole b o k) ▸ hc

theorem trod_struct5 {P : Program} {spare : Nat → Bool} {t : TypeId} {f0 f1 f2 f3 f4 : Field} {fuel : Nat} {cs : List Value} {x : DataW H × List MemPlace} (ht : P.underlying t = some (.struct #[f0, f1, f2, f3, f4])) (h : DataW.trod enc P w base spare held fuel t cs = some x) :
    ∃ y0 y1 y2 y3 y4 n, cs.length = P.cellsOf t ∧ DataW.trod enc P w base spare held n f0.type ((cs.drop f0.offset).take (P.cellsOf f0.type)) = some y0 ∧
      DataW.trod enc P w base spare held n f1.type ((cs.drop f1.offset).take (P.cellsOf f1.type)) = some y1 ∧ DataW.trod enc P w base spare held n f2.type ((cs.drop f2.offset).take (P.cellsOf f2.type)) = some y2 ∧
      DataW.trod enc P w base spare held n f3.type ((cs.drop f3.offset).take (P.cellsOf f3.type)) = some y3 ∧ DataW.trod enc P w base spare held n f4.type ((cs.drop f4.offset).take (P.cellsOf f4.type)) = some y4 := by
  obtain ⟨xs, n, _, rfl, hl, hlen, hf⟩ := DataW.trod_struct ht h
  match xs, hlen with
  | [y0, y1, y2, y3, y4], _ => exact ⟨y0, y1, y2, y3, y4, n, hl, by simpa using hf 0 f0 rfl, by simpa using hf 1 f1 rfl, by simpa using hf 2 f2 rfl, by simpa using hf 3 f3 rfl, by simpa using hf 4 f4 rfl⟩

theorem list5 {α : Type} {cs : List α} (h : cs.length = 5) : ∃ c0 c1 c2 c3 c4, cs = [c0, c1, c2, c3, c4] := by
  match cs, h with
  | [c0, c1, c2, c3, c4], _ => exact ⟨c0, c1, c2, c3, c4, rfl⟩

set_option maxRecDepth 100000 in
/-- The cells of an operation. -/
theorem op_cells {fuel : Nat} {cs : List Value} {x : DataW H × List MemPlace} (h : DataW.trod enc Tryz.prog w base (fun _ => true) held fuel 31 cs = some x) :
    ∃ r : OpR, cs = OpE.cells r ∧ WfOp r ∧ Ints w r.2.1 r.1.2.2.1.length r.1.2.2.1 ∧ (0 < r.1.2.2.1.length → ∀ b o s, r.2.1 = some ⟨b, o, s⟩ → b < w.heap.size) := by
  obtain ⟨y0, y1, y2, y3, y4, n, hl, h0, h1, h2, h3, h4⟩ := trod_struct5 Tryz.underlying31 h
  rw [show Tryz.prog.cellsOf 31 = 5 from by kernel_rfl] at hl
  obtain ⟨c0, c1, c2, c3, c4, rfl⟩ := list5 hl
  rw [show Tryz.prog.cellsOf 3 = 1 from by kernel_rfl] at h0 h3 h4
  rw [show Tryz.prog.cellsOf 9 = 1 from by kernel_rfl] at h1
  rw [show Tryz.prog.cellsOf 29 = 1 from by kernel_rfl] at h2
  obtain ⟨k, e0, _, _⟩ := DataW.trod_int Tryz.underlying3 h0
  obtain ⟨t, e1, _, ht⟩ := DataW.trod_string Tryz.underlying9 h1
  obtain ⟨id, e3, _, hid⟩ := DataW.trod_int Tryz.underlying3 h3
  obtain ⟨cl, e4, _, _⟩ := DataW.trod_int Tryz.underlying3 h4
  obtain ⟨ra, m, c, L, e2, hm, hmc, hI⟩ := ints_read (v := c2) h2
  simp at e0 e1 e3 e4
  subst e0 e1 e2 e3 e4
  have hL := hI.1
  subst hL
  refine ⟨((k, t.data.toList, L, id, cl), (ra, c)), by rw [bs_of t]; rfl, ⟨hid, by unfold maxLen at ht; simpa using ht, hm, hmc⟩, hI, fun hp b o s e => ?_⟩
  obtain ⟨b', o', e', c'⟩ := hI.2 0 hp
  dsimp only at e
  rw [e] at e'
  cases e'
  exact cell_lt c'

theorem ops_read {fuel : Nat} {v : Value} {x : DataW H × List MemPlace} (h : DataW.trod enc Tryz.prog w base (fun _ => true) held fuel 22 [v] = some x) :
    ∃ (ra : Option Addr) (n c : Nat) (rs : List OpR), v = .slice ra n c ∧ n ≤ 9223372036854775807 ∧ Recs OpE w ra n rs ∧ OpsIn w w.heap.size rs ∧ n ≤ c := by
  rcases open_slice Tryz.underlying22 h with ⟨hcs, _⟩ | ⟨a, len, cap, m, fu, D, P0, hcs, _, hl, hm, hmm, _, hx⟩
  · simp at hcs
    subst hcs
    exact ⟨none, 0, 0, [], rfl, by omega, Recs.none _, fun r hr => by simp at hr, Nat.le_refl _⟩
  · simp at hcs
    subst hcs
    simp only [if_true] at hmm
    subst hmm
    obtain ⟨b, o, s⟩ := a
    unfold maxLen at hm
    rw [show Tryz.prog.cellsOf 31 = 5 from by kernel_rfl] at hx
    obtain ⟨F, hF⟩ := choose_lt (α := OpR) (p := fun i r => w.cells? base ((Addr.mk b o s).add (i * 5)) 5 = some (OpE.cells r) ∧ WfOp r ∧ Ints w r.2.1 r.1.2.2.1.length r.1.2.2.1 ∧ (0 < r.1.2.2.1.length → ∀ b o s, r.2.1 = some ⟨b, o, s⟩ → b < w.heap.size)) (n := len) (fun i hi => by
      obtain ⟨cs', h1, h2⟩ := hx i (by omega)
      obtain ⟨r, rfl, h3⟩ := op_cells h2
      exact ⟨r, h1, h3⟩)
    have hlen : ((List.range len).map F).length = len := by simp
    have hget : ∀ i (hi : i < len), ((List.range len).map F)[i]'(by rw [hlen]; exact hi) = F i := fun i hi => by simp
    refine ⟨some ⟨b, o, s⟩, len, m, (List.range len).map F, rfl, by omega, ⟨hlen, fun i hi => ?_⟩, fun r hr => ?_, hl⟩
    · have hs : s = none := by
        obtain ⟨_, _, hc⟩ := World.cells?_some (hF 0 (by omega)).1
        have := hc 0 (by omega)
        rw [add_add] at this
        exact whole_of (this.trans rfl)
      subst hs
      refine ⟨b, o, rfl, fun j hj => ?_⟩
      obtain ⟨_, _, hc⟩ := World.cells?_some (hF i hi).1
      have := hc j hj
      rw [add_add, add_whole] at this
      rw [Nat.add_assoc, this, rc_eq _ _ (by rw [hlen]; exact hi), hget i hi]
      have : j = 0 ∨ j = 1 ∨ j = 2 ∨ j = 3 ∨ j = 4 := by omega
      rcases this with rfl | rfl | rfl | rfl | rfl <;> rfl
    · obtain ⟨i, hi, rfl⟩ := List.mem_map.mp hr
      exact (hF i (List.mem_range.mp hi)).2

set_option maxRecDepth 100000 in
/-- An operation by value. -/
theorem op_read {r : Reach} {b0 : Nat} {v : Value} {d : DataW H} {p : List MemPlace} (hv : Value.okWide Tryz.prog w r b0 31 v)
    (h : DataW.Trod enc Tryz.prog w base (fun _ => true) held 31 v d p) :
    ∃ x : OpR, v = .agg #[.int .i64 x.1.1, .string (bs x.1.2.1), .slice x.2.1 x.1.2.2.1.length x.2.2, .int .i64 x.1.2.2.2.1, .int .i64 x.1.2.2.2.2] ∧ OpsIn w w.heap.size [x] := by
  obtain ⟨cs, rfl, hsz⟩ := okWide_struct Tryz.underlying31 hv
  obtain ⟨fuel, hf⟩ := h
  obtain ⟨x, hc, h1⟩ := op_cells hf
  refine ⟨x, ?_, fun y hy => by rw [List.mem_singleton.mp hy]; exact h1⟩
  obtain ⟨l⟩ := cs
  have : l = OpE.cells x := by simpa [Value.cells] using hc
  subst this
  rfl
end

theorem witness_shaped {H : Type} {enc : TypeId × Value → H} {C : Checked} {os : Os} {f : FuncId} {fn : Func} {s : OpenSpec} {conds : List PathCond} {apart : Bool} {laid : List (String × DataW Unit)} (modest : Bool) (w0 : World) (args : Array Value) (hos : w0.os = os)
    (hsh : (w0.forCall (fun _ _ => 0) ⟨#[], args, []⟩).Shaped C.prog)
    (hok : Input.okWideB C.prog (w0.forCall (fun _ _ => 0) ⟨#[], args, []⟩) f ⟨#[], args, []⟩ = true)
    (hrow : s.preRow enc C.prog fn conds apart laid (w0.forCall (fun _ _ => 0) ⟨#[], args, []⟩).memory args) :
    ∃ (w : World) (tape : Tape) (i : Input), w.os = os ∧ (w.forCall tape i).Shaped C.prog ∧ i.vars = [] ∧ Input.okWide C.prog (w.forCall tape i) .any w.heap.size f i ∧
      s.preRow enc C.prog fn conds apart laid (w.forCall tape i).memory i.args ∧ ({ modest := modest } : Assume).holds C.prog (lone (Frame.enter C.prog f i.args .normal) [] (w.forCall tape i)) :=
  ⟨w0, fun _ _ => 0, ⟨#[], args, []⟩, hos, hsh, (Input.okWide_of_okWideB (base := 0) hok).1, (Input.okWide_of_okWideB hok).2, hrow, by
    simp only [Assume.holds]
    exact ⟨by simp, by simp, fun _ => Modest.zero, by simp, by simp⟩⟩
end Go.Proofs.YtkdbenoleendcaaGreatDoor
