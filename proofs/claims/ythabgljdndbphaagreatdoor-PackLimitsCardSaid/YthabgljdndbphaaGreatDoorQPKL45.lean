/- foyerref23.Compact: the walk. -/
import Derived.Test.YthabgljdndbphaaGreatDoorQPKL43
import Derived.Test.YthabgljdndbphaaGreatDoorQPKL44

set_option linter.unusedVariables false
set_option linter.unusedSimpArgs false
namespace Go.Proofs.YthabgljdndbphaaGreatDoor
open Go.RowKit Go.IntWalk Go.Maps Go.WideMaps
set_option linter.unusedSimpArgs false
set_option linter.unusedVariables false

/-! ### Group by group -/
section
variable {G : List (Int × Int)} {c : Nat → Int} {n i : Nat}
end
/-! ### In memory -/
structure CmM (w0 w : World) (gp gr gu gx : Nat) (PA : Array Value) (spv : Value) (S : List (Int × Int)) (U : List Int) (xv : Int) : Prop where
 below : Below w0.heap.size w0 w
 prob : w.heap[gp]? = some (.cells PA 25 (0, 0))
 res : w.heap[gr]? = some (.cells #[.slice none 0 0, .int .i64 0] 31 (0, 0))
 used : IntRow w gu 3 U
 pack : w.heap[gx]? = some (.cells #[spv, .int .i64 xv] 31 (0, 0))
 own : w.ownsRow w0.heap.size 46 2 spv S.length (flat SpotE S)
 new : w0.heap.size ≤ gu ∧ w0.heap.size ≤ gx ∧ gr ≠ gx
section
variable {w0 w w' : World} {gp gr gu gx : Nat} {PA : Array Value} {spv : Value} {S : List (Int × Int)} {U : List Int} {xv : Int}
theorem CmM.down (h : CmM w0 w gp gr gu gx PA spv S U xv) (hb : Below w.heap.size w w') : CmM w0 w' gp gr gu gx PA spv S U xv :=
 ⟨h.below.trans (hb.mono h.below.size), (hb.block _ (lt_of_block h.prob)).trans h.prob, (hb.block _ (lt_of_block h.res)).trans h.res, h.used.below hb, (hb.block _ (lt_of_block h.pack)).trans h.pack, row_of_heap h.own fun b hb2 => hb.block b (h.own.lt b hb2).2, h.new⟩
theorem int_type (h : IntRow w gu 3 U) : ∃ arr, w.heap[gu]? = some (.cells arr 3 (0, 0)) := let ⟨arr, e, _⟩ := h; ⟨arr, e⟩
theorem IntRow.keep {S : TypeId → Prop} {D : List Int} {g : Nat} (h : IntRow w g 3 D) (ht : TUpd S w w') (hS : ¬ S 3) : IntRow w' g 3 D := by
 obtain ⟨arr, e⟩ := int_type h
 exact h.of_heap ((ht.keep e hS).trans e.symm)
theorem own_keep {S : TypeId → Prop} {B n : Nat} {v : Value} {xs : List Value} (h : w.ownsRow B 46 2 v n xs) (ht : TUpd S w w') (hS : ¬ S 46) : w'.ownsRow B 46 2 v n xs :=
 row_of_heap h fun b hb => by
  obtain ⟨cur, hc⟩ := own_type h hb
  rw [ht.keep hc hS, hc]
theorem CmM.val (h : CmM w0 w gp gr gu gx PA spv S U xv) (y : Int) : CmM w0 (w.setCell ⟨gx, 1, none⟩ (.int .i64 y)) gp gr gu gx PA spv S U y := by
 have ht := tupd_set (j := 1) h.pack (.int .i64 y)
 refine ⟨h.below.setCell (by show _ ≤ gx; exact h.new.2.1) _, ht.keep h.prob (by decide), ?_, h.used.keep ht (by decide), ?_, own_keep h.own ht (by decide), h.new⟩
 ·
  rw [Below.heap_setCell _ _ _ _ h.new.2.2]
  exact h.res
 ·
  simp [World.setCell, Array.getElem?_modify, h.pack]
theorem CmM.use (h : CmM w0 w gp gr gu gx PA spv S U xv) {q : Nat} (hq : q < U.length) (y : Int) : CmM w0 (w.setCell ⟨gu, q, none⟩ (.int .i64 y)) gp gr gu gx PA spv S (U.set q y) xv := by
 obtain ⟨arr, e⟩ := int_type h.used
 have ht := tupd_set (j := q) e (.int .i64 y)
 exact ⟨h.below.setCell (by show _ ≤ gu; exact h.new.1) _, ht.keep h.prob (by decide), ht.keep h.res (by decide), h.used.set q hq y, ht.keep h.pack (by decide), own_keep h.own ht (by decide), h.new⟩
theorem CmM.spot (h : CmM w0 w gp gr gu gx PA spv S U xv) {v' : Value} {s : Int × Int} (ho : w'.ownsRow w0.heap.size 46 2 v' (S.length + 1) (flat SpotE (S ++ [s]))) (hg : w.grownBy w' spv.ownBlock) : CmM w0 (w'.setCell ⟨gx, 0, none⟩ v') gp gr gu gx PA v' (S ++ [s]) U xv := by
 have ht := tupd_own h.own hg
 have hb1 : Below w0.heap.size w0 w' := h.below.grown hg h.below.size (fun k hk => (h.own.lt k hk).1)
 have hp1 := ht.keep h.pack (by decide)
 have ht2 := tupd_set (j := 0) hp1 v'
 refine ⟨hb1.setCell (by show _ ≤ gx; exact h.new.2.1) _, ht2.keep (ht.keep h.prob (by decide)) (by decide), ?_, (h.used.keep ht (by decide)).keep ht2 (by decide), ?_, ?_, h.new⟩
 ·
  rw [Below.heap_setCell _ _ _ _ h.new.2.2]
  exact ht.keep h.res (by decide)
 ·
  simp [World.setCell, Array.getElem?_modify, hp1]
 ·
  rw [List.length_append]
  exact own_keep ho ht2 (by decide)
theorem World_setRow_ne (w : World) {gz b : Nat} {v : Value} (hb : v.ownBlock = some b) (hne : some gz ≠ v.ownBlock) (B : Array Value) : (w.setRow gz B).heap[b]? = w.heap[b]? := by
 have : gz ≠ b := fun e => hne (by rw [hb, e])
 simp [World.setRow, Array.getElem?_modify, this]
/-- A store into a spot's variable. -/
theorem CmM.spotVar (h : CmM w0 w gp gr gu gx PA spv S U xv) {gz : Nat} {A B : Array Value} (hz : w.heap[gz]? = some (.cells A 46 (0, 0))) (hn : w0.heap.size ≤ gz) (hne : some gz ≠ spv.ownBlock) : CmM w0 (w.setRow gz B) gp gr gu gx PA spv S U xv := by
 have ht := tupd_row hz B
 refine ⟨below_setRow h.below hn B, ht.keep h.prob (by decide), ht.keep h.res (by decide), h.used.keep ht (by decide), ht.keep h.pack (by decide), row_of_heap h.own fun b hb => ?_, h.new⟩
 exact World_setRow_ne w hb hne B
end
end Go.Proofs.YthabgljdndbphaaGreatDoor
