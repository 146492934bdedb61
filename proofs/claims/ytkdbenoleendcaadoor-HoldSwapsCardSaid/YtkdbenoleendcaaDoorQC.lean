/- A region whose loads and calls yield one value whatever the calls in it have laid: one walk, in the order of the text, over the worlds behind a world. -/
import Derived.WalkKit
import Derived.Deep.QuietTactic
import Derived.BigQuiet
import Derived.WalkSmall
namespace Go.Proofs.YtkdbenoleendcaaDoor
open Go.RowKit

/-- The worlds that have what w has below B. -/
def After (B : Nat) (w : World) : Type := {w' : World // Below B w w'}

def After.w {B : Nat} {w : World} (x : After B w) : World := x.1

theorem After.below {B : Nat} {w : World} (x : After B w) : Below B w x.w := x.2

instance {B : Nat} {w : World} : Nonempty (After B w) := ⟨⟨w, ⟨rfl, rfl, rfl, Nat.le_refl _, fun _ _ => rfl⟩⟩⟩

theorem After.cell {w : World} {p : Addr} {v : Value} (h : w.cell? p = some v) (x : After w.heap.size w) : x.w.cell? p = some v :=
  (x.below.cell (p := p) (World.block_lt_of_cell? w p h)).trans h

theorem wp_region_after {P : Program} {id : Nat} {Q : Exit → Act → World → Prop} {a : Act} {w w0 : World} {B : Nat} {l : List Oper} (hm : P.follows .mixedOrders = true) (hB : Region.lexB .any l.toArray = true) (h0 : Below B w0 w)
    (h : wpQuiet P l.toArray (fun w' => ∃ x : After B w0, w' = x.w) (fun a' => ∀ w', (∃ x : After B w0, w' = x.w) → Q .normal a' w') l a) : (Code.region id l.toArray true).wp P Q a w :=
  wp_region_quiet (C := fun w' => ∃ x : After B w0, w' = x.w) hm hB ⟨⟨w.drew, h0.drew⟩, rfl⟩ (by simpa using h)

theorem Calls.after_of {P : Program} {f : FuncId} {args : Array Value} {w w0 : World} {B : Nat} {v : Value} (h : Calls P f args w fun e w' => e = .returned v ∧ Below B w0 w') :
    Calls P f args w fun e w'' => e = .returned v ∧ ∃ x : After B w0, w'' = x.w :=
  h.mono fun _ w' ⟨he, hb⟩ => ⟨he, ⟨w', hb⟩, rfl⟩
end Go.Proofs.YtkdbenoleendcaaDoor
