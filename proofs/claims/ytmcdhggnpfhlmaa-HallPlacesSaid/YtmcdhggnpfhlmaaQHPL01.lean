/- hall: three numbers as a key; a set of such, a map to truth values. -/
import Derived.Test.YtmcdhggnpfhlmaaQHCB20

namespace Go.Proofs.Ytmcdhggnpfhlmaa
open Go.RowKit Go.IntWalk Go.Maps Go.WideMaps Go.ChangeMaps Go.MapKept Go.WideElems
set_option linter.unusedSimpArgs false
set_option linter.unusedVariables false

abbrev TriT := Int × Int × Int
def triV (p : TriT) : Value := .agg #[.int .i64 p.1, .int .i64 p.2.1, .int .i64 p.2.2]
def triL (p : TriT) : Lit := .string (keyBytes [.int .i64 p.1, .int .i64 p.2.1, .int .i64 p.2.2])
def WfT (p : TriT) : Prop := (Lit.int .i64 p.1).wf = true ∧ (Lit.int .i64 p.2.1).wf = true ∧ (Lit.int .i64 p.2.2).wf = true

theorem lawT : Keyed Try.prog 37 := Keyed.of_law (deep_law_laid laidOut (m := 20) (by decide) (by decide +kernel) (by kernel_rfl) (by kernel_rfl))
theorem key_tri (p : TriT) (h : WfT p) : keyOf Try.prog 37 (triV p) = some (triL p) := by
  have h1 := h.1
  have h2 := h.2.1
  have h3 := h.2.2
  have hkt : Try.prog.keyType 37 = true := by kernel_rfl
  have ho : Try.prog.cellsOf 37 = 3 := by kernel_rfl
  have hi : Try.prog.cellsOf 3 = 1 := by kernel_rfl
  have hr : List.range 3 = [0, 1, 2] := rfl
  obtain ⟨m, hm⟩ : ∃ m, Try.prog.types.size = m + 1 := ⟨_, rfl⟩
  unfold keyOf triV triL
  simp only [Try.underlying37]
  rw [if_pos (by simp [hkt, Value.formed, Try.underlying37, ho]), hm]
  unfold Program.keyLits
  simp only [Try.underlying37, Value.cells]
  simp [ho, hi, hr, Program.keyLits, Try.underlying3, h1, h2, h3]

theorem triL_inj {a b : TriT} (ha : WfT a) (hb : WfT b) (h : triL a = triL b) : a = b := by
  have := lawT.inj (key_tri a ha) (by rw [h]; exact key_tri b hb)
  unfold triV at this
  simp only [Value.agg.injEq, Array.mk.injEq, List.cons.injEq, Value.int.injEq, true_and, and_true] at this
  exact Prod.ext this.1 (Prod.ext this.2.1 this.2.2)
theorem triL_is (a : TriT) : WideAt.IsKeyLit (triL a) := by unfold triL; trivial

/-- Block M is a map of three numbers to truth values, of the call's own, with at most N entries. -/
def TriSet (w : World) (M N : Nat) (S : TriT → Bool) : Prop := ∃ (n : Nat) (D : DataW Value), n ≤ N ∧ w.ownsMap Try.prog 37 RV M n D ∧ IsMap D ∧ ∀ a, WfT a → D.atKey (triL a) (.held (.bool false)) = .held (.bool (S a))
theorem TriSet.made (w : World) : TriSet (w.alloc (.map #[] 0)) w.heap.size 0 (fun _ => false) := ⟨0, .map [], Nat.le_refl _, World.ownsMap_made _ _ _ _, isMap_empty, fun a _ => by simp [DataW.atKey]⟩
theorem TriSet.lt {w : World} {M N : Nat} {S : TriT → Bool} (h : TriSet w M N S) : M < w.heap.size := by
  obtain ⟨n, D, _, ⟨es, c, e, _⟩, _⟩ := h
  exact lt_of_block e
theorem TriSet.heap {w w' : World} {M N : Nat} {S : TriT → Bool} (h : TriSet w M N S) (e : w'.heap[M]? = w.heap[M]?) : TriSet w' M N S :=
  let ⟨n, D, a, b, c⟩ := h; ⟨n, D, a, owns_of_heap b e, c⟩
theorem TriSet.down {w w' : World} {M N : Nat} {S : TriT → Bool} (h : TriSet w M N S) (hb : Below w.heap.size w w') : TriSet w' M N S := h.heap (hb.block M h.lt)
theorem TriSet.look {w : World} {M N : Nat} {S : TriT → Bool} (h : TriSet w M N S) (p : TriT) (hp : WfT p) :
    (Instr.lookup 33 (.map (some M)) (triV p) false).run Try.prog w = .ok (.bool (S p)) w := by
  obtain ⟨n, D, _, h1, h2, h3⟩ := h
  obtain ⟨v, ps, hrun, hv⟩ := h1.lookup lawT Try.underlying33 (z := .bool false) (by kernel_rfl) (zd := .held (.bool false)) (zp := []) rfl (key_tri p hp)
  rw [h3 p hp] at hv
  rw [hrun, RV_inv hv]
theorem TriSet.set {w : World} {M N : Nat} {S : TriT → Bool} (h : TriSet w M N S) (p : TriT) (hp : WfT p) (hN : N < 1000000) :
    ∃ w', (Instr.mapUpdate 33 (.map (some M)) (triV p) (.bool true)).run Try.prog w = .ok () w' ∧ TriSet w' M (N + 1) (fun q => decide (q = p) || S q) ∧ w.grownBy w' (some M) := by
  obtain ⟨n, D, hn, h1, h2, h3⟩ := h
  obtain ⟨w', hrun, ho, hg⟩ := h1.update lawT Try.underlying33 (by unfold maxLen; omega) (key_tri p hp) (val := .bool true) (d := .held (.bool true)) (ps := []) rfl
  refine ⟨w', hrun, ⟨n + 1, _, by omega, ho, h2.put _ _, fun a ha => ?_⟩, hg⟩
  by_cases e : a = p
  · rw [e, atKey_put_same h2 (triL_is _)]
    simp
  · rw [atKey_put_other (fun e2 => e (triL_inj ha hp e2)), h3 a ha]
    simp [e]
end Go.Proofs.Ytmcdhggnpfhlmaa
