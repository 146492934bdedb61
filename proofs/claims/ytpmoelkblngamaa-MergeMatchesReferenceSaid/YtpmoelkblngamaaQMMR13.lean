/- merge: what the walks share. -/
import Derived.Test.YtpmoelkblngamaaQMMR10
import Derived.Test.YtpmoelkblngamaaQMMR12
import Derived.ArgAppend
import Derived.Below
import Derived.BigQuiet
import Derived.BigRegion
import Derived.Deep.AppendLies
import Derived.Deep.CutBlock
import Derived.Deep.DeepCutAuto
import Derived.Deep.RegionHeld3
import Derived.Deep.RegionHeldLaw
import Derived.Deep.RegionWith
import Derived.Deep.SlicePairs
import Derived.IntWalk
import Derived.Laws.Rows
import Derived.Laws.StructEq
import Derived.Lib.SmallJoins
import Derived.LoopTactic
import Derived.Maps.AppendAt
import Derived.Maps.RangeWalk
import Derived.RangeFuncRecord
import Derived.RegionTactic
import Derived.Shelf.Abstract
import Derived.Shelf.RegionOpen
import Derived.StillTailTactics
import Derived.Laws.Cover1
import Derived.Shelf.SlSortCmp.WholeK
import Derived.Test.YtpmoelkblngamaaProg

namespace Go.Proofs.Ytpmoelkblngamaa
open Go.RowKit Go.IntWalk Go.Maps Go.WideMaps

/-- w' is w but for the blocks of S, and new ones. -/
structure Upd (S : Nat → Prop) (w w' : World) : Prop where
  os : w'.os = w.os
  tape : w'.tape = w.tape
  output : w'.output = w.output
  size : w.heap.size ≤ w'.heap.size
  block : ∀ i, i < w.heap.size → ¬ S i → w'.heap[i]? = w.heap[i]?

theorem Upd.of_row {S : Nat → Prop} {w w' : World} {r : Option Nat} (h : w.grownBy w' r) (hb : ∀ b, r = some b → S b) : Upd S w w' :=
  ⟨h.os, h.tape, h.output, h.size, fun i hi hS => h.block i hi (fun e => hS (hb i e.symm))⟩

theorem Upd.of_below {S : Nat → Prop} {w w' : World} (h : Below w.heap.size w w') : Upd S w w' := ⟨h.os, h.tape, h.output, h.size, fun i hi _ => h.block i hi⟩

theorem Upd.refl (S : Nat → Prop) (w : World) : Upd S w w := ⟨rfl, rfl, rfl, Nat.le_refl _, fun _ _ _ => rfl⟩

theorem Upd.trans {S : Nat → Prop} {a b c : World} (h : Upd S a b) (k : Upd S b c) : Upd S a c :=
  ⟨k.os.trans h.os, k.tape.trans h.tape, k.output.trans h.output, Nat.le_trans h.size k.size, fun i hi hS => (k.block i (Nat.lt_of_lt_of_le hi h.size) hS).trans (h.block i hi hS)⟩

theorem Upd.wide {S T : Nat → Prop} {a b : World} (h : Upd S a b) (hs : ∀ i, S i → T i) : Upd T a b :=
  ⟨h.os, h.tape, h.output, h.size, fun i hi hT => h.block i hi (fun e => hT (hs i e))⟩

theorem Upd.below {S : Nat → Prop} {w0 w w' : World} (hb : Below w0.heap.size w0 w) (h : Upd S w w') (hs : ∀ i, S i → w0.heap.size ≤ i) : Below w0.heap.size w0 w' :=
  hb.trans ⟨h.os, h.tape, h.output, h.size, fun i hi => h.block i (Nat.lt_of_lt_of_le hi hb.size) (fun hS => by have := hs i hS; omega)⟩

/-- A block of cells of another type is another block. -/
theorem type_ne {w : World} {i j : Nat} {A B : Array Value} {T U : TypeId} {x y : Nat × Nat} (h1 : w.heap[i]? = some (.cells A T x)) (h2 : w.heap[j]? = some (.cells B U y)) (hT : T ≠ U) : i ≠ j := by
  rintro rfl
  rw [h1] at h2
  simp only [Option.some.injEq, Obj.cells.injEq] at h2
  exact hT h2.2.1

/-- w' is w behind some draws. -/
def Quiet (w w' : World) : Prop := ∃ m, w' = w.drewN m
theorem Quiet.refl (w : World) : Quiet w w := ⟨0, rfl⟩
theorem Quiet.next {w wr : World} (h : Quiet w wr) : Quiet w wr.drew := by
  obtain ⟨m, rfl⟩ := h
  exact ⟨m + 1, rfl⟩
theorem Quiet.more {w wr : World} (h : Quiet w wr) (q : Nat) : Quiet w (wr.drewN q) := by
  obtain ⟨m, rfl⟩ := h
  exact ⟨m + q, by simp [World.drewN, Nat.add_assoc]⟩
theorem Quiet.trans {a b c : World} (h : Quiet a b) (k : Quiet b c) : Quiet a c := by
  obtain ⟨m, rfl⟩ := k
  exact h.more m
theorem Quiet.below {w wr : World} (hq : Quiet w wr) : Below w.heap.size w wr := by
  obtain ⟨m, rfl⟩ := hq
  exact below_drewN (Below.refl _ _) m

theorem row_of_heap {w w' : World} {B k n : Nat} {T : TypeId} {v : Value} {xs : List Value} (h : w.ownsRow B T k v n xs) (e : ∀ r, v.ownBlock = some r → w'.heap[r]? = w.heap[r]?) : w'.ownsRow B T k v n xs := by
  refine ⟨h.1, ?_⟩
  rcases h.2 with h0 | ⟨g, cap, cur, rfl, hb, hh, r⟩
  · exact Or.inl h0
  · exact Or.inr ⟨g, cap, cur, rfl, hb, (e g rfl).trans hh, r⟩

theorem int_new (W : World) (x : Int) : ∀ (j : Nat) (u : Value), ([Value.int .i64 x])[j]? = some u → (W.alloc (.cells #[.int .i64 x] 3)).cell? ((⟨W.heap.size, 0, none⟩ : Addr).add j) = some u := by
  intro j u hj
  rw [add_none]
  have hb := World.alloc_heap_new W (.cells #[.int .i64 x] 3)
  rw [Nat.zero_add, cell_of_row _ _ _ _ _ _ hb]
  simpa using hj

theorem info_parts' {x : Option TypeInfo} {z : Option Value} {s b : Nat} (h : x.map (fun i => (i.zero, i.size, i.bytes)) = some (z, s, b)) : ∃ i, x = some i ∧ i.zero = z ∧ i.size = s ∧ i.bytes = b := by
  obtain ⟨i, hi, e⟩ := Option.map_eq_some_iff.1 h
  simp only [Prod.mk.injEq] at e
  exact ⟨i, hi, e.1, e.2.1, e.2.2⟩

theorem int_info : (Try.prog.info? 3).map (fun i => (i.zero, i.size, i.bytes)) = some (some (.int .i64 0), 1, 8) := by kernel_rfl

theorem IntRow.of_row {w : World} {B n : Nat} {v : Value} {L : List Int} (hn : 0 < n) (h : w.ownsRow B 3 1 v n (L.map (Value.int .i64))) : ∃ g c, v = .slice (some ⟨g, 0, none⟩) n c ∧ B ≤ g ∧ IntRow w g 3 L := by
  have hl : L.length = n := by have := h.1; simpa using this
  rcases h.2 with ⟨_, h0⟩ | ⟨g, cap, cur, rfl, hb, hh, h1, _, h3, h4⟩
  · omega
  · have hsz : n ≤ cur.size := by
      have := congrArg List.length h4
      rw [List.length_take, List.length_map, hl] at this
      have h5 : cur.toList.length = cur.size := by simp
      omega
    refine ⟨g, cap, rfl, hb, cur, hh, by omega, fun k hk => ?_⟩
    have h5 : (cur.toList.take (n * 1))[k]? = (L.map (Value.int .i64))[k]? := by rw [h4]
    rw [List.getElem?_take_of_lt (by omega)] at h5
    simp only [Array.getElem?_toList, List.getElem?_map] at h5
    rw [h5]
    simp [ix, List.getD_eq_getElem?_getD, hk]

theorem Ints.of_own {w : World} {B n : Nat} {v : Value} {L : List Int} (h : w.ownsRow B 3 1 v n (L.map (Value.int .i64))) : ∃ pa pc, v = .slice pa n pc ∧ Ints w pa n L := by
  have hlen : L.length = n := by have := h.1; simpa using this
  rcases Nat.eq_zero_or_pos n with h0 | h0
  · rcases h.2 with ⟨rfl, _⟩ | ⟨g, cap, cur, rfl, _⟩
    · exact ⟨none, 0, by rw [h0], hlen, fun k hk => by omega⟩
    · exact ⟨_, _, rfl, hlen, fun k hk => by omega⟩
  · obtain ⟨g, c, rfl, _, hr⟩ := IntRow.of_row h0 h
    exact ⟨_, _, rfl, hlen, fun k hk => ⟨g, 0, rfl, by rw [Nat.zero_add]; exact hr.cell k (by omega)⟩⟩


/-- How a scan, a blame lies in six cells. -/
def ScnE : Enc Scn 6 := ⟨fun x => [.int .i64 x.gate, .int .i64 x.number, .int .i64 x.time, .int .i64 x.serial, .int .i64 x.kind, .string (bs x.owner)], fun _ => rfl, fun x v hv => by
  simp only [List.mem_cons, List.not_mem_nil, or_false] at hv
  rcases hv with rfl | rfl | rfl | rfl | rfl | rfl <;> rfl, by decide⟩
def BlmE : Enc Blm 6 := ⟨fun x => [.int .i64 x.kind, .int .i64 x.serial, .int .i64 x.gate, .int .i64 x.number, .int .i64 x.other, .int .i64 x.count], fun _ => rfl, fun x v hv => by
  simp only [List.mem_cons, List.not_mem_nil, or_false] at hv
  rcases hv with rfl | rfl | rfl | rfl | rfl | rfl <;> rfl, by decide⟩

theorem info_scn : (Try.prog.info? 39).map (fun i => (i.zero, i.size, i.bytes)) = some (some (.agg #[.int .i64 0, .int .i64 0, .int .i64 0, .int .i64 0, .int .i64 0, .string (bs [])]), 6, 56) := by kernel_rfl
theorem info_blm : (Try.prog.info? 48).map (fun i => (i.zero, i.size, i.bytes)) = some (some (.agg #[.int .i64 0, .int .i64 0, .int .i64 0, .int .i64 0, .int .i64 0, .int .i64 0]), 6, 48) := by kernel_rfl

theorem OwnRecs.of_row2 {α : Type} {k n : Nat} {E : Enc α k} {w : World} {T : TypeId} {B : Nat} {xs : List α} {v : Value} (h : w.ownsRow B T k v n (flat E xs)) : ∃ la c, v = .slice la n c ∧ OwnRecs E w B T la n xs ∧ (la = none → c = 0) := by
  obtain ⟨la, c, e, ho⟩ := OwnRecs.of_row h
  refine ⟨la, c, e, ho, fun hn => ?_⟩
  subst hn
  rcases h.2 with ⟨h1, _⟩ | ⟨g, cap, cur, h1, _⟩
  · rw [e] at h1; cases h1; rfl
  · rw [e] at h1; cases h1

/-- A slice that reads as some scans. -/
def Scs (w : World) (v : Value) (l : List Scn) : Prop := ∃ la c, v = .slice la l.length c ∧ Recs ScnE w la l.length l ∧ (la = none → c = 0)
theorem Scs.below {w w' : World} {v : Value} {l : List Scn} (h : Scs w v l) (hb : Below w.heap.size w w') : Scs w' v l :=
  let ⟨la, c, e, r, hc⟩ := h; ⟨la, c, e, r.below hb, hc⟩
theorem Scs.nil (w : World) : Scs w (.slice none 0 0) [] := ⟨none, 0, rfl, Recs.none w, fun _ => rfl⟩
theorem Scs.of_own {w : World} {B : Nat} {la : Option Addr} {c : Nat} {l : List Scn} (h : OwnRecs ScnE w B 39 la l.length l) (hc : la = none → c = 0) : Scs w (.slice la l.length c) l := ⟨la, c, rfl, h.recs, hc⟩
theorem Scs.of_row {w : World} {B n : Nat} {v : Value} {l : List Scn} (h : w.ownsRow B 39 6 v n (flat ScnE l)) : Scs w v l := by
  have hl : l.length = n := by have := h.1; rw [flat_len] at this; omega
  subst hl
  obtain ⟨la, c, rfl, ho, hc⟩ := OwnRecs.of_row2 h
  exact Scs.of_own ho hc

/-- A scan's cells at an index. -/
theorem scn_at {w : World} {ra : Option Addr} {n : Nat} {l : List Scn} (h : Recs ScnE w ra n l) (i : Nat) (hi : i < n) (hiE : i < l.length) : ∃ b o, ra = some ⟨b, o, none⟩ ∧ w.cell? ⟨b, o + i * 6, none⟩ = some (.int .i64 l[i].gate) ∧
    w.cell? ⟨b, o + i * 6 + 1, none⟩ = some (.int .i64 l[i].number) ∧ w.cell? ⟨b, o + i * 6 + 2, none⟩ = some (.int .i64 l[i].time) ∧ w.cell? ⟨b, o + i * 6 + 3, none⟩ = some (.int .i64 l[i].serial) ∧
    w.cell? ⟨b, o + i * 6 + 4, none⟩ = some (.int .i64 l[i].kind) ∧ w.cell? ⟨b, o + i * 6 + 5, none⟩ = some (.string (bs l[i].owner)) := by
  obtain ⟨b, o, e, c⟩ := h.2 i hi
  have c0 := c 0 (by omega)
  have c1 := c 1 (by omega)
  have c2 := c 2 (by omega)
  have c3 := c 3 (by omega)
  have c4 := c 4 (by omega)
  have c5 := c 5 (by omega)
  rw [rc_eq _ _ hiE] at c0 c1 c2 c3 c4 c5
  exact ⟨b, o, e, c0, c1, c2, c3, c4, c5⟩

theorem blm_at {w : World} {ra : Option Addr} {n : Nat} {l : List Blm} (h : Recs BlmE w ra n l) (i : Nat) (hi : i < n) (hiE : i < l.length) : ∃ b o, ra = some ⟨b, o, none⟩ ∧ w.cell? ⟨b, o + i * 6, none⟩ = some (.int .i64 l[i].kind) ∧
    w.cell? ⟨b, o + i * 6 + 1, none⟩ = some (.int .i64 l[i].serial) ∧ w.cell? ⟨b, o + i * 6 + 2, none⟩ = some (.int .i64 l[i].gate) ∧ w.cell? ⟨b, o + i * 6 + 3, none⟩ = some (.int .i64 l[i].number) ∧
    w.cell? ⟨b, o + i * 6 + 4, none⟩ = some (.int .i64 l[i].other) ∧ w.cell? ⟨b, o + i * 6 + 5, none⟩ = some (.int .i64 l[i].count) := by
  obtain ⟨b, o, e, c⟩ := h.2 i hi
  have c0 := c 0 (by omega)
  have c1 := c 1 (by omega)
  have c2 := c 2 (by omega)
  have c3 := c 3 (by omega)
  have c4 := c 4 (by omega)
  have c5 := c 5 (by omega)
  rw [rc_eq _ _ hiE] at c0 c1 c2 c3 c4 c5
  exact ⟨b, o, e, c0, c1, c2, c3, c4, c5⟩
end Go.Proofs.Ytpmoelkblngamaa
