/- One pair is put into its row: what the append and the store leave. -/
import Derived.Test.YtaomlhhlefpdeaaX1
import Derived.Deep.AppendLies
namespace Go.Proofs.Ytaomlhhlefpdeaa
open Go.RowKit

theorem spotInfo : ∃ i, Try.prog.info? 39 = some i ∧ i.zero = some (.agg #[.int .i64 0, .int .i64 0]) ∧ i.size = 2 ∧ i.bytes = 16 := by
  have hinfo : (Try.prog.info? 39).map (fun i => (i.zero, i.size, i.bytes)) = some (some (.agg #[.int .i64 0, .int .i64 0]), 2, 16) := by kernel_rfl
  obtain ⟨i, hi, hzz⟩ := Option.map_eq_some_iff.1 hinfo
  simp only [Prod.mk.injEq] at hzz
  exact ⟨i, hi, hzz.1, hzz.2.1, hzz.2.2⟩

theorem placed_len (R : List Int) (G S : List (Int × Int)) : ∀ i q, placed R G S i = some q → ∀ r, (qx q.1 r).length ≤ i := by
  intro i
  induction i with
  | zero =>
    intro q h r
    simp [placed] at h; subst h
    by_cases hr : r < R.length
    · simp [qx, List.getD, hr]
    · simp [qx, List.getD, hr]
  | succ i ih =>
    intro q h r
    have hlen := fun p hp => placed_length R G S i p hp
    rw [placed] at h
    cases hp : placed R G S i with
    | none => rw [hp] at h; simp at h
    | some p =>
      rw [hp] at h
      simp only [Option.bind_some] at h
      have i1 := ih p hp
      split at h
      · simp at h; subst h; have := i1 r; omega
      · split at h
        · simp at h
        · rename_i hb
          simp at h; subst h
          unfold badSpot at hb
          dsimp only
          rw [qx_set _ _ _ _ (by rw [hlen p hp]; omega)]
          split
          · rw [List.length_append]; have := i1 (gs S i).toNat; simp; omega
          · have := i1 r; omega

section
variable {w4 w5 : World} {g tn g' cap' H bs : Nat} {s f : Int} {Q : List (List (Int × Int))} {vr : Value} {o : Obj}

theorem push_far (hgrow : (w4.drew.alloc o).grownBy w5 vr.ownBlock) (a : Addr) (ha : a.block < w4.heap.size) (hne : ∀ b, vr.ownBlock = some b → b ≠ a.block) : w5.heap[a.block]? = w4.heap[a.block]? := by
  rw [hgrow.block a.block (by show a.block < (w4.heap.push o).size; simp; omega) (fun e => hne _ e.symm rfl)]
  exact Below.heap_alloc w4.drew o _ ha

theorem push_facts (hR : Rows2 w4 (g + 1) g Q) (hq : tn < Q.length) (cr : w4.cell? ⟨g, tn, none⟩ = some vr) (hvlt : ∀ b, vr.ownBlock = some b → g + 1 ≤ b ∧ b < bs)
    (hown : w5.ownsRow (g + 1) 39 2 (.slice (some ⟨g', 0, none⟩) ((qx Q tn).length + 1) cap') ((qx Q tn).length + 1) (pcells (qx Q tn) ++ pcells [(s, f)]))
    (hgrow : (w4.drew.alloc o).grownBy w5 vr.ownBlock) (hat : vr.ownBlock = some g' ∨ g' = w4.heap.size + 1) :
    Rows2 (w5.setCell ⟨g, tn, none⟩ (.slice (some ⟨g', 0, none⟩) ((qx Q tn).length + 1) cap')) (g + 1) g (Q.set tn (qx Q tn ++ [(s, f)])) ∧
      Below g w4 (w5.setCell ⟨g, tn, none⟩ (.slice (some ⟨g', 0, none⟩) ((qx Q tn).length + 1) cap')) ∧
      ∀ k, bs ≤ k → g < k → k < w4.heap.size → (w5.setCell ⟨g, tn, none⟩ (.slice (some ⟨g', 0, none⟩) ((qx Q tn).length + 1) cap')).heap[k]? = w4.heap[k]? := by
  have hb : Below w4.heap.size w4 (w4.drew.alloc o) := (Below.refl _ _).drew.alloc (Nat.le_refl _) _
  have hg4 : g < w4.heap.size := by
    obtain ⟨_, vs, h1, _⟩ := hR
    exact lt_of_block h1
  refine ⟨Rows2.push (hR.below hb) tn hq vr _ (s, f) ?_ hown hgrow ?_, ?_, fun k hk hgk hk4 => ?_⟩
  · have := Below.cell_of hb cr; exact this
  · rcases hat with e | e
    · left; rw [e]; rfl
    · right; exact ⟨g', rfl, by rw [e]; show (w4.heap.push o).size ≤ _; simp⟩
  · have h1 : Below g w4 w5 := (hb.mono (by omega)).grown hgrow (by have := hb.size; omega) (fun k hk => by have := (hvlt k hk).1; omega)
    exact h1.setCell (p := ⟨g, tn, none⟩) (Nat.le_refl _) _
  · rw [heap_set k (by omega)]
    exact push_far hgrow ⟨k, 0, none⟩ hk4 (fun b hb => by have := (hvlt b hb).2; dsimp only; omega)
end
end Go.Proofs.Ytaomlhhlefpdeaa
