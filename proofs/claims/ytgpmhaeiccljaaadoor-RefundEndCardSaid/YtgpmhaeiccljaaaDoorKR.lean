/- What an argument's reading gives the walks of refunds: means, operations, integers, a string; the witness of a row that lists variables. -/
import Derived.Test.YtgpmhaeiccljaaaDoorRows
import Derived.Test.YtgpmhaeiccljaaaDoorRI
import Derived.ProofKit
import Derived.OpenShut
import Derived.ChangeOld
import Derived.Below
import Derived.Deep.SlicePairs
import Derived.Lib.SmallJoins
import Derived.ChangeMaps5
import Derived.Deep.DeepHandedRow
namespace Go.Proofs.YtgpmhaeiccljaaaDoor
open Go.ChangeShapes Go.WideShapes Go.ChangeAt Go.RowKit Go.Deep Go.Joins

section
variable {H : Type} {enc : TypeId × Value → H} {w : World} {base : Nat} {held : Bool}

theorem add_whole (b o k : Nat) : (⟨b, o, none⟩ : Addr).add k = ⟨b, o + k, none⟩ := by
  unfold Addr.add; split
  · subst_vars; rfl
  · rfl

theorem whole_of {b o : Nat} {s} {v : Value} (h : w.cell? ((Addr.mk b o s).add 0) = some v) : s = none := by
  simpa [Addr.add] using World.cell?_spot h

def numV : Value → Int
  | .int _ n => n
  | _ => 0

def strV : Value → List UInt8
  | .string s => s.data.toList
  | _ => []

set_option maxRecDepth 100000 in
theorem means_read {fuel : Nat} {v : Value} {x : DataW H × List MemPlace} (h : DataW.trod enc Tryd.prog w base (fun _ => true) held fuel 22 [v] = some x) :
    ∃ (ra : Option Addr) (n c : Nat) (l : List MeanT), v = .slice ra n c ∧ n ≤ 9223372036854775807 ∧ Means w ra n l ∧ ∀ i, i < n → (nm l i).length ≤ 9223372036854775807 := by
  rcases open_slice_pairs Tryd.underlying22 Tryd.underlying46 (by kernel_rfl) rfl rfl (by kernel_rfl) (by kernel_rfl) h with ⟨hcs, _⟩ | ⟨a, len, cap, m, fu, V0, V1, D0, D1, P0, P1, hcs, _, hl, hm, hmm, _, hx⟩
  · simp at hcs
    subst hcs
    exact ⟨none, 0, 0, [], rfl, by omega, Recs.none _, fun i hi => absurd hi (Nat.not_lt_zero _)⟩
  · simp at hcs
    subst hcs
    simp only [if_true] at hmm
    subst hmm
    obtain ⟨b, o, s⟩ := a
    unfold maxLen at hm
    have key : ∀ i, i < len → ∃ (t : ByteArray) (n : Int), V0 i = .string t ∧ V1 i = .int .i64 n ∧ t.size ≤ 9223372036854775807 := by
      intro i hi
      obtain ⟨_, _, h0, h1⟩ := hx i (by omega)
      obtain ⟨t, e0, _, ht⟩ := DataW.trod_string Tryd.underlying9 h0
      obtain ⟨n, e1, _⟩ := DataW.trod_int Tryd.underlying3 h1
      simp only [List.cons.injEq, and_true] at e0 e1
      exact ⟨t, n, e0, e1, by unfold maxLen at ht; omega⟩
    have hlen : ((List.range len).map fun i => (strV (V0 i), numV (V1 i))).length = len := by simp
    have hnm : ∀ i, i < len → nm ((List.range len).map fun i => (strV (V0 i), numV (V1 i))) i = strV (V0 i) := fun i hi => by rw [nm_eq _ _ (by simpa using hi)]; simp
    have ham : ∀ i, i < len → am ((List.range len).map fun i => (strV (V0 i), numV (V1 i))) i = numV (V1 i) := fun i hi => by rw [am_eq _ _ (by simpa using hi)]; simp
    refine ⟨some ⟨b, o, s⟩, len, m, (List.range len).map fun i => (strV (V0 i), numV (V1 i)), rfl, by omega, ⟨hlen, fun i hi => ?_⟩, fun i hi => ?_⟩
    · have hs : s = none := whole_of (by simpa using (hx 0 (by omega)).1)
      subst hs
      refine ⟨b, o, rfl, fun j hj => ?_⟩
      obtain ⟨t, n, e0, e1, _⟩ := key i hi
      obtain ⟨g0, g1, _⟩ := hx i (by omega)
      rw [add_whole] at g0 g1
      match j, hj with
      | 0, _ =>
        rw [mean_c0 i (by rw [hlen]; exact hi), hnm i hi, e0, show strV (.string t) = t.data.toList from rfl, ← bs_of, ← e0]
        exact g0
      | 1, _ =>
        rw [mean_c1 i (by rw [hlen]; exact hi), ham i hi, e1, show numV (.int .i64 n) = n from rfl, ← e1]
        exact g1
    · obtain ⟨t, n, e0, _, ht⟩ := key i hi
      rw [hnm i hi, e0]
      show t.data.toList.length ≤ _
      simpa using ht

set_option maxRecDepth 100000 in
theorem ops_read {fuel : Nat} {v : Value} {x : DataW H × List MemPlace} (h : DataW.trod enc Tryd.prog w base (fun _ => true) held fuel 23 [v] = some x) :
    ∃ (ra : Option Addr) (n c : Nat) (l : List OpT), v = .slice ra n c ∧ n ≤ 9223372036854775807 ∧ OpsAt w ra n l ∧ ∀ i, i < n → (on l i).length ≤ 9223372036854775807 := by
  rcases open_slice_pairs Tryd.underlying23 Tryd.underlying39 (by kernel_rfl) rfl rfl (by kernel_rfl) (by kernel_rfl) h with ⟨hcs, _⟩ | ⟨a, len, cap, m, fu, V0, V1, D0, D1, P0, P1, hcs, _, hl, hm, hmm, _, hx⟩
  · simp at hcs
    subst hcs
    exact ⟨none, 0, 0, [], rfl, by omega, Recs.none _, fun i hi => absurd hi (Nat.not_lt_zero _)⟩
  · simp at hcs
    subst hcs
    simp only [if_true] at hmm
    subst hmm
    obtain ⟨b, o, s⟩ := a
    unfold maxLen at hm
    have key : ∀ i, i < len → ∃ (t : ByteArray) (n : Int), V1 i = .string t ∧ V0 i = .int .i64 n ∧ t.size ≤ 9223372036854775807 := by
      intro i hi
      obtain ⟨_, _, h0, h1⟩ := hx i (by omega)
      obtain ⟨t, e0, _, ht⟩ := DataW.trod_string Tryd.underlying9 h1
      obtain ⟨n, e1, _⟩ := DataW.trod_int Tryd.underlying3 h0
      simp only [List.cons.injEq, and_true] at e0 e1
      exact ⟨t, n, e0, e1, by unfold maxLen at ht; omega⟩
    have hlen : ((List.range len).map fun i => (numV (V0 i), strV (V1 i))).length = len := by simp
    have hon : ∀ i, i < len → on ((List.range len).map fun i => (numV (V0 i), strV (V1 i))) i = strV (V1 i) := fun i hi => by rw [on_eq _ _ (by simpa using hi)]; simp
    refine ⟨some ⟨b, o, s⟩, len, m, (List.range len).map fun i => (numV (V0 i), strV (V1 i)), rfl, by omega, ⟨hlen, fun i hi => ?_⟩, fun i hi => ?_⟩
    · have hs : s = none := whole_of (by simpa using (hx 0 (by omega)).1)
      subst hs
      refine ⟨b, o, rfl, fun j hj => ?_⟩
      obtain ⟨t, n, e0, e1, _⟩ := key i hi
      obtain ⟨g0, g1, _⟩ := hx i (by omega)
      rw [add_whole] at g0 g1
      rw [rc_eq _ _ (by rw [hlen]; exact hi)]
      simp only [List.getElem_map, List.getElem_range]
      match j, hj with
      | 0, _ =>
        show _ = some (Value.int .i64 (numV (V0 i)))
        rw [e1, show numV (.int .i64 n) = n from rfl, ← e1]
        exact g0
      | 1, _ =>
        show _ = some (Value.string (bs (strV (V1 i))))
        rw [e0, show strV (.string t) = t.data.toList from rfl, ← bs_of, ← e0]
        exact g1
    · obtain ⟨t, n, e0, _, ht⟩ := key i hi
      rw [hon i hi, e0]
      show t.data.toList.length ≤ _
      simpa using ht

set_option maxRecDepth 100000 in
theorem string_read {r : Reach} {b0 : Nat} {v : Value} {d : DataW H} {p : List MemPlace} (hv : Value.okWide Tryd.prog w r b0 9 v)
    (h : DataW.Trod enc Tryd.prog w base (fun _ => true) held 9 v d p) : ∃ s : List UInt8, v = .string (bs s) ∧ s.length ≤ 9223372036854775807 := by
  obtain ⟨s, rfl, _, _, hs⟩ := _root_.Go.ChangeMaps.open_string Tryd.underlying9 hv h
  unfold maxLen at hs
  exact ⟨s.data.toList, by rw [← bs_of], by simp; exact hs⟩
end

theorem witness_shaped {H : Type} {enc : TypeId × Value → H} {C : Checked} {os : Os} {f : FuncId} {fn : Func} {s : OpenSpec} {conds : List PathCond} {apart : Bool} {laid : List (String × DataW Unit)} (modest : Bool) (w0 : World) (args : Array Value) (hos : w0.os = os)
    (hsh : (w0.forCall (fun _ _ => 0) ⟨#[], args, []⟩).Shaped C.prog)
    (hok : Input.okWideB C.prog (w0.forCall (fun _ _ => 0) ⟨#[], args, []⟩) f ⟨#[], args, []⟩ = true)
    (hrow : s.preRow enc C.prog fn conds apart laid (w0.forCall (fun _ _ => 0) ⟨#[], args, []⟩).memory args) :
    ∃ (w : World) (tape : Tape) (i : Input), w.os = os ∧ (w.forCall tape i).Shaped C.prog ∧ i.vars = [] ∧ Input.okWide C.prog (w.forCall tape i) .any w.heap.size f i ∧
      s.preRow enc C.prog fn conds apart laid (w.forCall tape i).memory i.args ∧ ({ modest := modest } : Assume).holds C.prog (lone (Frame.enter C.prog f i.args .normal) [] (w.forCall tape i)) :=
  ⟨w0, fun _ _ => 0, ⟨#[], args, []⟩, hos, hsh, (Input.okWide_of_okWideB (base := 0) hok).1, (Input.okWide_of_okWideB hok).2, hrow, by
    simp only [Assume.holds]
    exact ⟨by simp, by simp, fun _ => Modest.zero, by simp, by simp⟩⟩
end Go.Proofs.YtgpmhaeiccljaaaDoor
