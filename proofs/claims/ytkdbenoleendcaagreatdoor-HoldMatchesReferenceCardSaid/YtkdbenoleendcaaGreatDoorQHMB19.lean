/- hold: a Holds in memory; what stays of it. -/
import Derived.Test.YtkdbenoleendcaaGreatDoorQHMB18

namespace Go.Proofs.YtkdbenoleendcaaGreatDoor
open Go.RowKit Go.IntWalk Go.Maps Go.WideMaps

/-- w' is w but for the blocks of S, and new ones. -/
structure Upd (S : Nat → Prop) (w w' : World) : Prop where
  os : w'.os = w.os
  tape : w'.tape = w.tape
  output : w'.output = w.output
  size : w.heap.size ≤ w'.heap.size
  block : ∀ i, i < w.heap.size → ¬ S i → w'.heap[i]? = w.heap[i]?

theorem Upd.of_row {S : Nat → Prop} {w w' : World} {r : Option Nat} (h : w.grownBy w' r) (hb : ∀ b, r = some b → S b) : Upd S w w' :=
  ⟨h.os, h.tape, h.output, h.size, fun i hi hS => h.block i hi (fun e => hS (hb i e.symm))⟩

theorem Upd.of_below {S : Nat → Prop} {w w' : World} (h : Below w.heap.size w w') : Upd S w w' := ⟨h.os, h.tape, h.output, h.size, fun i hi _ => h.block i hi⟩

theorem Upd.refl (S : Nat → Prop) (w : World) : Upd S w w := ⟨rfl, rfl, rfl, Nat.le_refl _, fun _ _ _ => rfl⟩

theorem Upd.trans {S : Nat → Prop} {a b c : World} (h : Upd S a b) (k : Upd S b c) : Upd S a c :=
  ⟨k.os.trans h.os, k.tape.trans h.tape, k.output.trans h.output, Nat.le_trans h.size k.size, fun i hi hS => (k.block i (Nat.lt_of_lt_of_le hi h.size) hS).trans (h.block i hi hS)⟩

theorem Upd.wide {S T : Nat → Prop} {a b : World} (h : Upd S a b) (hs : ∀ i, S i → T i) : Upd T a b :=
  ⟨h.os, h.tape, h.output, h.size, fun i hi hT => h.block i hi (fun e => hT (hs i e))⟩

theorem Upd.below {S : Nat → Prop} {w0 w w' : World} (hb : Below w0.heap.size w0 w) (h : Upd S w w') (hs : ∀ i, S i → w0.heap.size ≤ i) : Below w0.heap.size w0 w' :=
  hb.trans ⟨h.os, h.tape, h.output, h.size, fun i hi => h.block i (Nat.lt_of_lt_of_le hi hb.size) (fun hS => by have := hs i hS; omega)⟩

/-- A block of cells of another type is another block. -/
theorem type_ne {w : World} {i j : Nat} {A B : Array Value} {T U : TypeId} {x y : Nat × Nat} (h1 : w.heap[i]? = some (.cells A T x)) (h2 : w.heap[j]? = some (.cells B U y)) (hT : T ≠ U) : i ≠ j := by
  rintro rfl
  rw [h1] at h2
  simp only [Option.some.injEq, Obj.cells.injEq] at h2
  exact hT h2.2.1

/-- An open hold's places, in a block of their own. -/
def PlAt (w : World) (F : Nat → Prop) (x : OwnT) : Prop := ∃ b, x.2.1 = some ⟨b, 0, none⟩ ∧ F b ∧ IntRow w b 3 x.1.2.2.1

/-- A Holds in memory: its blocks g, M, sb, and F, where its open holds' places lie (which none writes). -/
structure HoldC (w : World) (F : Nat → Prop) (g M sb : Nat) (E : List OwnT) (st : St) : Prop where
  blk : w.heap[g]? = some (.cells #[.map (some M), .slice (some ⟨sb, 0, none⟩) st.sp.length st.sp.length, .int .i64 st.last] 56 (0, 0))
  map : w.ownsMap Tryz.prog 3 RH M E.length (mapH E)
  sps : RecRow SpE w sb 53 st.sp
  ops : E.map (·.1) = st.op
  pls : ∀ x ∈ E, PlAt w F x
  inv : Inv st

/-- The blocks that an operation may write. -/
def Own3 (g M sb : Nat) (i : Nat) : Prop := i = g ∨ i = M ∨ i = sb

section
variable {w w' : World} {F T : Nat → Prop} {g M sb : Nat} {E : List OwnT} {st : St}

theorem HoldC.map_blk (h : HoldC w F g M sb E st) : ∃ es clock, w.heap[M]? = some (.map es clock) := let ⟨es, c, e, _⟩ := h.map; ⟨es, c, e⟩

theorem HoldC.ne_gM (h : HoldC w F g M sb E st) : g ≠ M := by
  rintro rfl
  obtain ⟨es, c, e⟩ := h.map_blk
  rw [h.blk] at e
  cases e

theorem HoldC.ne_gs (h : HoldC w F g M sb E st) : g ≠ sb := by
  obtain ⟨arr, ha, _⟩ := h.sps
  exact type_ne h.blk ha (by decide)

theorem HoldC.ne_sM (h : HoldC w F g M sb E st) : sb ≠ M := by
  rintro rfl
  obtain ⟨es, c, e⟩ := h.map_blk
  obtain ⟨arr, ha, _⟩ := h.sps
  rw [ha] at e
  cases e

theorem HoldC.pl_own (h : HoldC w F g M sb E st) {x : OwnT} {b : Nat} (hr : IntRow w b 3 x.1.2.2.1) : ¬ Own3 g M sb b := by
  obtain ⟨arr, ha, _⟩ := hr
  rintro (rfl | rfl | rfl)
  · exact type_ne h.blk ha (by decide) rfl
  · obtain ⟨es, c, e⟩ := h.map_blk
    rw [ha] at e
    cases e
  · obtain ⟨arr2, ha2, _⟩ := h.sps
    exact type_ne ha2 ha (by decide) rfl

theorem IntRow.keep {T : Nat → Prop} {w w' : World} {b : Nat} {ty : TypeId} {D : List Int} (h : IntRow w b ty D) (hu : Upd T w w') (hb : ¬ T b) : IntRow w' b ty D := by
  obtain ⟨arr, ha, r⟩ := h
  exact ⟨arr, (hu.block b (lt_of_block ha) hb).trans ha, r⟩

theorem PlAt.keep {x : OwnT} (h : PlAt w F x) (hu : Upd T w w') (hd : ∀ i, F i → ¬ T i) : PlAt w' F x :=
  let ⟨b, e, hb, hr⟩ := h; ⟨b, e, hb, hr.keep hu (hd b hb)⟩

theorem HoldC.keep (h : HoldC w F g M sb E st) (hu : Upd T w w') (hd : ∀ i, F i → ¬ T i) (ho : ∀ i, Own3 g M sb i → ¬ T i) : HoldC w' F g M sb E st := by
  refine ⟨(hu.block g (lt_of_block h.blk) (ho g (Or.inl rfl))).trans h.blk, ?_, ?_, h.ops, fun x hx => (h.pls x hx).keep hu hd, h.inv⟩
  · obtain ⟨es, c, e, r⟩ := h.map
    exact ⟨es, c, (hu.block M (lt_of_block e) (ho M (Or.inr (Or.inl rfl)))).trans e, r⟩
  · obtain ⟨arr, ha, r⟩ := h.sps
    exact ⟨arr, (hu.block sb (lt_of_block ha) (ho sb (Or.inr (Or.inr rfl)))).trans ha, r⟩

theorem HoldC.asc (h : HoldC w F g M sb E st) : Asc E := by
  have := h.inv.ids
  rw [← h.ops] at this
  unfold Asc
  rwa [List.pairwise_map] at this
end
end Go.Proofs.YtkdbenoleendcaaGreatDoor
