/- A range over a function whose round boxes what it is handed. -/
import Derived.RangeFuncNested
import Derived.RangeFuncBound
import Derived.RangeFuncCalls
import Derived.RangeFuncLeaves
namespace Go.Proofs.Ytpmoelkblngamaa
open Go.RowKit

/-- The frame of a round, with its box in a slot. -/
def boxFrame (ps : Array Tmp) (vs tmps : Array Value) (slot b : Nat) : Act :=
  { tmps := ((ps.zip vs).foldl (fun t (x : Tmp × Value) => t.setIfInBounds x.1 x.2) tmps).setIfInBounds slot (.pointer (some ⟨b, 0, none⟩)), defers := [] }

theorem wpIn_rangeFunc_box {F : Fence} {P : Program} {n : Nat} {α : Type} {g : Operand} {ps : Array Tmp} {assign body : Code} {Q : Exit → Act → World → Prop} {a : Act} {w : World}
    (hro : F.round = none) (h1 : 1 ≤ n) {gf : Nat} {lb : Array Value} (hg : a.eval g = .func (.func gf) #[] lb) (hFg : F.fn gf) (eg : ∀ args w, (callFunc gf args).run P w = .ok (.enter gf args) w)
    {encs : α → Array Value} {Kp : World → World → Prop} {S Sp : List α → Prop} {N : Nat} {w0 : World} (hseq : SeqStopsK F (n - 1) P gf lb encs Kp S Sp N w0)
    (hKt : ∀ {A B C : World}, Kp A B → Kp B C → Kp A C) (hKb : ∀ (W : World) (l : Nat) (o o' : Obj), w.heap.size ≤ l → W.heap[l]? = some o → o.isCells = false → o.isWalk = false → Kp W (W.putObj l o')) (hb0 : Below w0.heap.size w0 w) (hps : ∀ x, (encs x).size = ps.size)
    (I : List α → World → Prop) (hI : OwnFrom w.heap.size I) (h0 : I [] w) (slot : Nat) (Bp : Nat → α → World → Prop) (hBp : ∀ b x, OwnFrom w.heap.size (fun (_ : Unit) W => Bp b x W))
    (hassign : ∀ (l : Nat) (pre : List α) (x : α) (W : World) (K : Act → World → Prop), I pre W → (∀ b W', KeepsFrom w.heap.size W W' → Kp W W' → I pre W' → Bp b x W' → K (boxFrame ps (encs x) a.tmps slot b) W') →
      assign.wpIn (F.inRound l) (n - 1 - 1) P (Exit.then K (fun _ _ _ => False)) { tmps := (ps.zip (encs x)).foldl (fun t (p, v) => t.setIfInBounds p v) a.tmps, defers := [] } W)
    (hbody : ∀ (l : Nat) (pre : List α) (x : α) (b : Nat) (W : World), w.heap.size ≤ l → (∃ r, W.heap[l]? = some (.loop r)) → I pre W → Bp b x W → pre.length < N → body.wpIn (F.inRound l) (n - 1 - 1) P (ownPostG w.heap.size Kp I (fun _ _ _ => False) (pre ++ [x]) W) (boxFrame ps (encs x) a.tmps slot b) W)
    (hdone : ∀ (D : Nat) (xs : List α) (W : World), w.heap.size ≤ D → S xs → I xs W → W.heap[D]? = some (.deferred (some [])) → Q .normal { a with defers := { target := .collected D, args := #[] } :: a.defers } W) :
    (Code.rangeFunc g ps assign body).wpIn F n P Q a w := by
  refine wpIn_rangeFunc_ownH hro h1 hg hFg eg hseq hKt hKb hb0 hps I (fun _ _ _ => False) hI (fun _ _ _ _ _ h _ _ => h) h0 (fun x a' W => ∃ b, Bp b x W ∧ a' = boxFrame ps (encs x) a.tmps slot b) ?_ ?_ ?_ hdone ?_
  · rintro x a' s X Y row ⟨b, hb, rfl⟩ hg hr
    exact ⟨b, hBp b x s X Y row hb hg hr, rfl⟩
  · intro l pre x W K hI' hK
    exact hassign l pre x W K hI' fun b W' k1 k2 k3 k4 => hK _ _ k1 k2 k3 ⟨b, k4, rfl⟩
  · rintro l pre x a' W hl hr hI' ⟨b, hb, rfl⟩ hlt
    exact hbody l pre x b W hl hr hI' hb hlt
  · rintro D c pre W _ _ h _
    exact h.elim
end Go.Proofs.Ytpmoelkblngamaa
