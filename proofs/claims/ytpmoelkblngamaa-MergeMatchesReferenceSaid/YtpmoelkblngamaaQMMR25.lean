/- merge: the blames in memory; blame: the walk. -/
import Derived.Test.YtpmoelkblngamaaQMMR24

namespace Go.Proofs.Ytpmoelkblngamaa
open Go.RowKit Go.IntWalk Go.Maps Go.WideMaps

/-- The blames' own blocks: from bb on, of their types. -/
def BTy (w : World) (bb i : Nat) : Prop := bb ≤ i ∧ ∃ arr T x, w.heap[i]? = some (.cells arr T x) ∧ (T = 48 ∨ T = 71)
def UpdB (bb : Nat) (w w' : World) : Prop := Upd (BTy w bb) w w'

/-- The blames so far: the box bb, the list's block behind it. -/
def BAt (w : World) (bb : Nat) (l : List Blm) : Prop := ∃ v, w.heap[bb]? = some (.cells #[v] 71 (0, 0)) ∧ w.ownsRow (bb + 1) 48 6 v l.length (flat BlmE l)

section
variable {w w' w2 : World} {bb : Nat} {l : List Blm}
theorem UpdB.refl (w : World) : UpdB bb w w := Upd.refl _ _
theorem UpdB.of_below (h : Below w.heap.size w w') : UpdB bb w w' := Upd.of_below h
theorem UpdB.trans (h : UpdB bb w w') (k : UpdB bb w' w2) : UpdB bb w w2 := by
  refine ⟨k.os.trans h.os, k.tape.trans h.tape, k.output.trans h.output, Nat.le_trans h.size k.size, fun i hi hS => ?_⟩
  have e := h.block i hi hS
  refine (k.block i (Nat.lt_of_lt_of_le hi h.size) (fun hB => hS ?_)).trans e
  obtain ⟨hb, arr, T, x, h1, h2⟩ := hB
  exact ⟨hb, arr, T, x, e ▸ h1, h2⟩
theorem UpdB.cells (h : UpdB bb w w') {i : Nat} {arr : Array Value} {T : TypeId} {x : Nat × Nat} (hi : w.heap[i]? = some (.cells arr T x)) (h1 : T ≠ 48) (h2 : T ≠ 71) : w'.heap[i]? = some (.cells arr T x) :=
  (h.block i (lt_of_block hi) (fun hB => by
    obtain ⟨_, arr', T', x', e, ht⟩ := hB
    rw [hi] at e
    cases e
    exact ht.elim h1 h2)).trans hi
theorem UpdB.map (h : UpdB bb w w') {i : Nat} {es : Array MapEntry} {c : Nat} (hi : w.heap[i]? = some (.map es c)) : w'.heap[i]? = some (.map es c) :=
  (h.block i (lt_of_block hi) (fun hB => by
    obtain ⟨_, arr', T', x', e, ht⟩ := hB
    rw [hi] at e
    cases e)).trans hi
theorem UpdB.below {w0 : World} (hb : Below w0.heap.size w0 w) (h : UpdB bb w w') (hs : w0.heap.size ≤ bb) : Below w0.heap.size w0 w' := Upd.below hb h fun _ hi => Nat.le_trans hs hi.1

theorem BAt.below (h : BAt w bb l) (hb : Below w.heap.size w w') : BAt w' bb l :=
  let ⟨v, h1, h2⟩ := h; ⟨v, (hb.block bb (lt_of_block h1)).trans h1, row_of_heap h2 fun r hr => hb.block r (h2.lt r hr).2⟩
theorem BAt.lt (h : BAt w bb l) : bb < w.heap.size := let ⟨_, h1, _⟩ := h; lt_of_block h1
/-- Other blocks have changed. -/
theorem BAt.other (h : BAt w bb l) {r : Option Nat} (hg : w.grownBy w' r) (hr : ∀ b, r = some b → ∃ o, w.heap[b]? = some o ∧ ∀ arr T x, o = .cells arr T x → T ≠ 48 ∧ T ≠ 71) : BAt w' bb l := by
  obtain ⟨v, h1, h2⟩ := h
  have hne : ∀ {i arr T x}, w.heap[i]? = some (.cells arr T x) → (T = 48 ∨ T = 71) → some i ≠ r := by
    intro i arr T x hi hT e
    obtain ⟨o, ho, hx⟩ := hr i e.symm
    rw [hi] at ho
    have := hx arr T x (Option.some.inj ho).symm
    exact hT.elim this.1 this.2
  refine ⟨v, (hg.block bb (lt_of_block h1) (hne h1 (Or.inr rfl))).trans h1, row_of_heap h2 fun r' hr' => ?_⟩
  rcases h2.2 with ⟨rfl, _⟩ | ⟨g, cap, cur, rfl, _, hgg, _⟩
  · cases hr'
  · cases hr'
    exact hg.block _ (lt_of_block hgg) (hne hgg (Or.inl rfl))
end

theorem UpdB.of_own {w w' : World} {bb n : Nat} {v : Value} {xs : List Value} (h : w.ownsRow (bb + 1) 48 6 v n xs) (hg : w.grownBy w' v.ownBlock) : UpdB bb w w' :=
  Upd.of_row hg fun b hb => by
    rcases h.2 with ⟨rfl, _⟩ | ⟨g, cap, cur, rfl, hbg, hgg, _⟩
    · cases hb
    · cases hb
      exact ⟨by show bb ≤ g; omega, cur, _, _, hgg, Or.inl rfl⟩
theorem UpdB.of_set {w : World} {bb : Nat} {arr : Array Value} {x : Nat × Nat} (h : w.heap[bb]? = some (.cells arr 71 x)) (u : Value) : UpdB bb w (w.setCell ⟨bb, 0, none⟩ u) :=
  Upd.of_row (grown_cell w ⟨bb, 0, none⟩ u) fun b hb => by cases hb; exact ⟨Nat.le_refl _, arr, _, _, h, Or.inr rfl⟩

theorem BAt.set {w : World} {bb : Nat} {u v : Value} {l : List Blm} (h : w.heap[bb]? = some (.cells #[u] 71 (0, 0))) (ho : w.ownsRow (bb + 1) 48 6 v l.length (flat BlmE l)) : BAt (w.setCell ⟨bb, 0, none⟩ v) bb l := by
  refine ⟨v, ?_, row_of_heap ho fun r hr => ?_⟩
  · simp [World.setCell, Array.getElem?_modify, h]
  · have := (ho.lt r hr).1
    exact Below.heap_setCell _ _ _ _ (by show r ≠ bb; omega)

/-- What adding a blame leaves. -/
def BlPost (bb : Nat) (l : List Blm) (w : World) (e : Ending) (w' : World) : Prop := e = .returned (.tuple #[]) ∧ BAt w' bb l ∧ UpdB bb w w'

set_option maxRecDepth 100000 in
set_option maxHeartbeats 1600000 in
theorem blame_any (w : World) (bb : Nat) (l : List Blm) (kind other count : Int) (s : Scn) (h : BAt w bb l) (hl : l.length ≤ 900000) :
    Calls Try.prog 37 #[.pointer (some ⟨bb, 0, none⟩), .int .i64 kind, .agg #[.int .i64 s.gate, .int .i64 s.number, .int .i64 s.time, .int .i64 s.serial, .int .i64 s.kind, .string (bs s.owner)], .int .i64 other, .int .i64 count] w
      (BlPost bb (l ++ [⟨kind, s.serial, s.gate, s.number, other, count⟩]) w) := by
  obtain ⟨i1, hj, hj0, hj1, hj2⟩ := blm_info
  have hb := Joins.below_alloc1 w (.cells #[.int .i64 s.gate, .int .i64 s.number, .int .i64 s.time, .int .i64 s.serial, .int .i64 s.kind, .string (bs s.owner)] 39)
  have HB := Lib.hid hb
  have HH := Lib.hid (h.below hb)
  have HX : Hid ((w.alloc (.cells #[.int .i64 s.gate, .int .i64 s.number, .int .i64 s.time, .int .i64 s.serial, .int .i64 s.kind, .string (bs s.owner)] 39)).heap[w.heap.size]? = some (.cells #[.int .i64 s.gate, .int .i64 s.number, .int .i64 s.time, .int .i64 s.serial, .int .i64 s.kind, .string (bs s.owner)] 39 (0, 0))) := World.alloc_heap_new w _
  clear hb h
  go_enter Try.func37, Try.ntmps37
  go_upto_region 1 with fail
  generalize w.alloc (.cells #[.int .i64 s.gate, .int .i64 s.number, .int .i64 s.time, .int .i64 s.serial, .int .i64 s.kind, .string (bs s.owner)] 39) = w1 at *
  have x0 : w1.cell? ⟨w.heap.size, 0, none⟩ = some (.int .i64 s.gate) := cell_of_row (j := 0) _ _ _ _ _ HX.out
  have x1 : w1.cell? ⟨w.heap.size, 1, none⟩ = some (.int .i64 s.number) := cell_of_row (j := 1) _ _ _ _ _ HX.out
  have x3 : w1.cell? ⟨w.heap.size, 3, none⟩ = some (.int .i64 s.serial) := cell_of_row (j := 3) _ _ _ _ _ HX.out
  obtain ⟨v, h1, h2⟩ := HH.out
  obtain ⟨la, c, rfl, _⟩ := OwnRecs.of_row2 h2
  have y0 : w1.cell? ⟨bb, 0, none⟩ = some (.slice la l.length c) := cell_of_row (j := 0) _ _ _ _ _ h1
  have y0a : ∀ o, (w1.alloc o).cell? ⟨bb, 0, none⟩ = some (.slice la l.length c) := fun o => Below.cell_of (Joins.below_alloc1 w1 o) y0
  have yf : w1.frozen? ⟨bb, 0, none⟩ = false := by simp only [World.frozen?, h1]; simp
  have H1 := Lib.hid h1
  have H2 := Lib.hid h2
  have hbl : bb + 1 ≤ w1.heap.size := lt_of_block h1
  clear h1 h2
  have HKP : Hid (∀ w4 : World, ((w1.drew).alloc (.cells (BlmE.cells ⟨kind, s.serial, s.gate, s.number, other, count⟩).toArray 48)).grownBy w4 (Value.slice la l.length c).ownBlock → w4.heap[bb]? = some (.cells #[.slice la l.length c] 71 (0, 0))) := fun w4 hg => by
    have hlt : bb < w1.heap.size := lt_of_block H1.out
    refine (hg.block bb (by simp; omega) (fun e => by have := (H2.out.lt bb e.symm).1; omega)).trans ?_
    exact ((((Below.refl _ w1).drew).alloc (Nat.le_refl _) _).block bb hlt).trans H1.out
  go_region_law (refine step_append_lies _ rfl (.tmp 13) (.tmp 24) 71 rfl (bb + 1) 48 i1 _ 6 48 Try.underlying71 hj hj0 hj1 hj2 rfl (by decide) (.slice la l.length c) l.length (flat BlmE l) (by simp [Act.eval]) (World.ownsRow.alloc (w := w1.drew) H2.out _) ⟨w1.heap.size, 0, none⟩ 1 1 (BlmE.cells ⟨kind, s.serial, s.gate, s.number, other, count⟩) (by simp [Act.eval]) rfl (World.news_of_block (cs := (BlmE.cells ⟨kind, s.serial, s.gate, s.number, other, count⟩).toArray) (World.alloc_heap_new w1.drew _)) (BlmE.one _) (by decide) (by unfold maxLen; omega) (by omega) (by simp; omega) (w1.heap.size + 1) (by simp) ?_; intro g' cap' w4 ho4 hg4 hgg4 hgl4; have HO4 := Lib.hid ho4; have HG4 := Lib.hid hg4; have HGG4 := Lib.hid hgg4; have h4 := HKP.out w4 hg4; have HK4 := Lib.hid h4; have z0 : w4.cell? ⟨bb, 0, none⟩ = some (.slice la l.length c) := cell_of_row (j := 0) _ _ _ _ _ h4; have zf : w4.frozen? ⟨bb, 0, none⟩ = false := (by simp only [World.frozen?, h4]; simp); clear ho4 hg4 hgg4 h4)
  all_goals
    have HF4 : Hid (UpdB bb w w4) := ((UpdB.of_below HB.out).trans (UpdB.of_below (((Below.refl _ w1).drew).alloc (Nat.le_refl _) _))).trans (UpdB.of_own (World.ownsRow.alloc (w := w1.drew) H2.out _) HG4.out)
    have HFB : Hid (BAt (w4.setCell ⟨bb, 0, none⟩ (.slice (some ⟨g', 0, none⟩) (l.length + 1) cap')) bb (l ++ [⟨kind, s.serial, s.gate, s.number, other, count⟩])) := by
      refine BAt.set HK4.out ?_
      rw [flat_append, flat_single, List.length_append]
      exact HO4.out
    try go_wp2_with fail
    go_end0
    exact ⟨rfl, HFB.out, HF4.out.trans (UpdB.of_set HK4.out _)⟩
end Go.Proofs.Ytpmoelkblngamaa
