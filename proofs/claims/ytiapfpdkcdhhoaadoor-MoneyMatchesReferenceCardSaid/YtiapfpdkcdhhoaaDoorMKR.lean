/- What an argument's reading gives the walks of money: integers, a ratio, a string; the witness of a row that lists variables. -/
import Derived.Test.YtiapfpdkcdhhoaaDoorRows
import Derived.Test.YtiapfpdkcdhhoaaDoorRow
import Derived.ProofKit
import Derived.OpenShut
import Derived.ChangeOld
import Derived.Below
import Derived.Deep.SlicePairs
import Derived.Lib.SmallJoins
import Derived.ChangeMaps5
import Derived.Deep.DeepHandedRow
namespace Go.Proofs.YtiapfpdkcdhhoaaDoor
open Go.ChangeShapes Go.WideShapes Go.ChangeAt Go.RowKit Go.Deep Go.Joins

section
variable {H : Type} {enc : TypeId × Value → H} {w : World} {base : Nat} {held : Bool}

theorem add_whole (b o k : Nat) : (⟨b, o, none⟩ : Addr).add k = ⟨b, o + k, none⟩ := by
  unfold Addr.add; split
  · subst_vars; rfl
  · rfl

theorem whole_of {b o : Nat} {s} {v : Value} (h : w.cell? ((Addr.mk b o s).add 0) = some v) : s = none := by
  simpa [Addr.add] using World.cell?_spot h

def num : Value → Int
  | .int _ n => n
  | _ => 0

theorem ints_read {fuel : Nat} {v : Value} {x : DataW H × List MemPlace} (h : DataW.trod enc Tryd.prog w base (fun _ => true) held fuel 30 [v] = some x) :
    ∃ (ra : Option Addr) (n c : Nat) (R : List Int), v = .slice ra n c ∧ n ≤ 9223372036854775807 ∧ (ra = none → c = 0) ∧ Ints w ra n R := by
  rcases open_ints Tryd.underlying30 Tryd.underlying3 (by kernel_rfl) h with ⟨hcs, _⟩ | ⟨x, l, c, zs, hcs, _, hl, hm, hz, _, hcell, hwz⟩
  · simp at hcs
    subst hcs
    exact ⟨none, 0, 0, [], rfl, by omega, fun _ => rfl, rfl, fun k hk => absurd hk (by omega)⟩
  · simp at hcs
    subst hcs
    obtain ⟨b, o, s⟩ := x
    have hz' : zs.length = c := by simpa using hz
    unfold maxLen at hm
    refine ⟨some ⟨b, o, s⟩, l, c, zs.take l, rfl, by omega, fun e => by simp at e, by rw [List.length_take]; omega, fun k hk => ?_⟩
    have hc := hcell k (by omega)
    have hs : s = none := whole_of (hcell 0 (by omega))
    subst hs
    refine ⟨b, o, rfl, ?_⟩
    have e : ix (zs.take l) k = zs.getD k 0 := by unfold ix; simp [List.getD, hk]
    rw [e]
    exact (add_whole b o k) ▸ hc


set_option maxRecDepth 100000 in
theorem ratio_read {r : Reach} {b0 : Nat} {v : Value} {d : DataW H} {p : List MemPlace} (hv : Value.okWide Tryd.prog w r b0 23 v)
    (h : DataW.Trod enc Tryd.prog w base (fun _ => true) held 23 v d p) : ∃ num den : Int, v = .agg #[.int .i64 num, .int .i64 den] := by
  obtain ⟨v0, v1, y0, y1, n, rfl, _, _, h0, h1⟩ := open_agg2 Tryd.underlying23 (by kernel_rfl) (by kernel_rfl) hv h
  obtain ⟨x, e1, _⟩ := DataW.trod_int Tryd.underlying3 h0
  obtain ⟨y, e2, _⟩ := DataW.trod_int Tryd.underlying3 h1
  simp at e1 e2
  subst e1 e2
  exact ⟨x, y, rfl⟩

set_option maxRecDepth 100000 in
theorem string_read {r : Reach} {b0 : Nat} {v : Value} {d : DataW H} {p : List MemPlace} (hv : Value.okWide Tryd.prog w r b0 9 v)
    (h : DataW.Trod enc Tryd.prog w base (fun _ => true) held 9 v d p) : ∃ s : ByteArray, v = .string s ∧ s.size ≤ 9223372036854775807 := by
  obtain ⟨s, rfl, _, _, hs⟩ := _root_.Go.ChangeMaps.open_string Tryd.underlying9 hv h
  unfold maxLen at hs
  exact ⟨s, rfl, by omega⟩
end

theorem witness_shaped {H : Type} {enc : TypeId × Value → H} {C : Checked} {os : Os} {f : FuncId} {fn : Func} {s : OpenSpec} {conds : List PathCond} {apart : Bool} {laid : List (String × DataW Unit)} (modest : Bool) (w0 : World) (args : Array Value) (hos : w0.os = os)
    (hsh : (w0.forCall (fun _ _ => 0) ⟨#[], args, []⟩).Shaped C.prog)
    (hok : Input.okWideB C.prog (w0.forCall (fun _ _ => 0) ⟨#[], args, []⟩) f ⟨#[], args, []⟩ = true)
    (hrow : s.preRow enc C.prog fn conds apart laid (w0.forCall (fun _ _ => 0) ⟨#[], args, []⟩).memory args) :
    ∃ (w : World) (tape : Tape) (i : Input), w.os = os ∧ (w.forCall tape i).Shaped C.prog ∧ i.vars = [] ∧ Input.okWide C.prog (w.forCall tape i) .any w.heap.size f i ∧
      s.preRow enc C.prog fn conds apart laid (w.forCall tape i).memory i.args ∧ ({ modest := modest } : Assume).holds C.prog (lone (Frame.enter C.prog f i.args .normal) [] (w.forCall tape i)) :=
  ⟨w0, fun _ _ => 0, ⟨#[], args, []⟩, hos, hsh, (Input.okWide_of_okWideB (base := 0) hok).1, (Input.okWide_of_okWideB hok).2, hrow, by
    simp only [Assume.holds]
    exact ⟨by simp, by simp, fun _ => Modest.zero, by simp, by simp⟩⟩
end Go.Proofs.YtiapfpdkcdhhoaaDoor
