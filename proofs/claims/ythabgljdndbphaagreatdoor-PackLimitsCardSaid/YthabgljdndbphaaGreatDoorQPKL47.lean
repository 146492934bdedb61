/- PackRoom: plain: a further run, a further group, a longer run; append(append([]T{}, l...), x): the states in whatever order the two literals are made. -/
import Derived.Test.YthabgljdndbphaaGreatDoorQPKL27
import Derived.Test.YthabgljdndbphaaGreatDoorQPKL44

set_option linter.unusedVariables false
set_option linter.unusedSimpArgs false
namespace Go.Proofs.YthabgljdndbphaaGreatDoor
set_option linter.unusedSimpArgs false
set_option linter.unusedVariables false

section
variable {single : Bool} {R R' : List Int} {G : List (Int × Int)} {c : Nat → Int}
end
section
variable {R : List Int} {G : List (Int × Int)} {g : Int × Int} {c : Nat → Int}
end
end Go.Proofs.YthabgljdndbphaaGreatDoor

namespace Go.Proofs.YthabgljdndbphaaGreatDoor
open Go.RowKit Go.IntWalk
set_option linter.unusedSimpArgs false
set_option linter.unusedVariables false


theorem own_none {α : Type} {k : Nat} {E : Enc α k} {w : World} {B : Nat} (T : TypeId) (hB : B ≤ w.heap.size) : (w.alloc (.cells #[] T)).ownsRow B T k (.slice (some ⟨w.heap.size, 0, none⟩) 0 0) 0 (flat E []) :=
 ⟨by simp [flat], .inr ⟨w.heap.size, 0, #[], rfl, hB, heap_new w _, Nat.le_refl _, by unfold maxLen; omega, by simp, by simp [flat]⟩⟩

/-- The state: o: the list that grows, g: where the last element lies. -/
structure AS {α : Type} {k : Nat} (E : Enc α k) (T : TypeId) (wd : World) (B0 : Nat) (a : α) (x : World) (o : Option (Value × List α)) (g : Option Nat) : Prop where
 below : Below B0 wd x
 size : B0 ≤ x.heap.size
 own : ∀ v D, o = some (v, D) → x.ownsRow B0 T k v D.length (flat E D)
 px : ∀ g5, g = some g5 → x.heap[g5]? = some (.cells (E.cells a).toArray T (0, 0))
 ne : ∀ v D g5, o = some (v, D) → g = some g5 → v.ownBlock ≠ some g5

section
variable {α : Type} {k : Nat} {E : Enc α k} {T : TypeId} {wd x : World} {B0 : Nat} {a : α}
theorem AS.start (B0 : Nat) (wd : World) (h : B0 ≤ wd.heap.size) : AS E T wd B0 a wd none none :=
 ⟨Below.refl _ _, h, fun _ _ e => (by cases e), fun _ e => (by cases e), fun _ _ _ e => (by cases e)⟩
theorem AS.lit {g : Option Nat} (h : AS E T wd B0 a x none g) : AS E T wd B0 a (x.alloc (.cells #[] T)) (some (.slice (some ⟨x.heap.size, 0, none⟩) 0 0, [])) g := by
 have hb := Joins.below_alloc1 x (.cells #[] T)
 refine ⟨h.below.trans (hb.mono h.size), Nat.le_trans h.size hb.size, fun v D e => ?_, fun g5 e => (hb.block g5 (lt_of_block (h.px g5 e))).trans (h.px g5 e), fun v D g5 e e2 e3 => ?_⟩
 ·
  cases e
  exact own_none T h.size
 ·
  cases e
  have h1 := lt_of_block (h.px g5 e2)
  simp only [Value.ownBlock, Option.some.injEq] at e3
  omega
theorem AS.one {o : Option (Value × List α)} (h : AS E T wd B0 a x o none) {arr : Array Value} (ha : arr = (E.cells a).toArray) : AS E T wd B0 a (x.alloc (.cells arr T)) o (some x.heap.size) := by
 subst ha
 have hb := Joins.below_alloc1 x (.cells (E.cells a).toArray T)
 refine ⟨h.below.trans (hb.mono h.size), Nat.le_trans h.size hb.size, fun v D e => row_of_heap (h.own v D e) fun b hb2 => hb.block b ((h.own v D e).lt b hb2).2, fun g5 e => ?_, fun v D g5 e e2 e3 => ?_⟩
 ·
  cases e
  exact heap_new x _
 ·
  cases e2
  have := ((h.own v D e).lt _ e3).2
  omega
theorem AS.row {la : Option Addr} {n lc : Nat} {D : List α} {g : Option Nat} (h : AS E T wd B0 a x (some (.slice la n lc, D)) g) {x' : World} (hx : ∀ b, B0 ≤ b → b < x.heap.size → x'.heap[b]? = x.heap[b]?) : Recs E x' la D.length D := by
 have := row_of_heap (h.own _ _ rfl) (w' := x') fun b hb => hx b ((h.own _ _ rfl).lt b hb).1 ((h.own _ _ rfl).lt b hb).2
 obtain ⟨la', lc', e, hr⟩ := OwnRecs.of_row this
 cases e
 exact hr.recs
/-- .. behind a store below it. -/
theorem AS.set {la : Option Addr} {n lc : Nat} {D : List α} {g : Option Nat} (h : AS E T wd B0 a x (some (.slice la n lc, D)) g) {b o : Nat} {v : Value} (hb : b < B0) : Recs E (x.setCell ⟨b, o, none⟩ v) la D.length D :=
 h.row fun b' h1 _ => Below.heap_setCell _ _ _ _ (by simp; omega)
theorem AS.recs {la : Option Addr} {n lc : Nat} {D : List α} {g : Option Nat} (h : AS E T wd B0 a x (some (.slice la n lc, D)) g) : Recs E x la D.length D := by
 have := h.own _ _ rfl
 obtain ⟨la', lc', e, hr⟩ := OwnRecs.of_row this
 cases e
 exact hr.recs
end
end Go.Proofs.YthabgljdndbphaaGreatDoor
