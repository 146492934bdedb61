/- hall: append(append([]T{}, l...), x): the states in whatever order the two literals are made; hall: a plan with other names, in memory of its own. -/
import Derived.Test.YtmcdhggnpfhlmaaQHCB34
import Derived.Test.YtmcdhggnpfhlmaaQHCB38
import Derived.Test.YtmcdhggnpfhlmaaQHGA04

namespace Go.Proofs.Ytmcdhggnpfhlmaa
open Go.RowKit Go.IntWalk
set_option linter.unusedSimpArgs false
set_option linter.unusedVariables false

theorem own_none {α : Type} {k : Nat} {E : Enc α k} {w : World} {B : Nat} (T : TypeId) (hB : B ≤ w.heap.size) : (w.alloc (.cells #[] T)).ownsRow B T k (.slice (some ⟨w.heap.size, 0, none⟩) 0 0) 0 (flat E []) :=
  ⟨by simp [flat], .inr ⟨w.heap.size, 0, #[], rfl, hB, World.alloc_heap_new w _, Nat.le_refl _, by unfold maxLen; omega, by simp, by simp [flat]⟩⟩

/-- The state: o: the list that grows, g: where the last element lies. -/
structure AS {α : Type} {k : Nat} (E : Enc α k) (T : TypeId) (wd : World) (B0 : Nat) (a : α) (x : World) (o : Option (Value × List α)) (g : Option Nat) : Prop where
  below : Below B0 wd x
  size : B0 ≤ x.heap.size
  own : ∀ v D, o = some (v, D) → x.ownsRow B0 T k v D.length (flat E D)
  px : ∀ g5, g = some g5 → x.heap[g5]? = some (.cells (E.cells a).toArray T (0, 0))
  ne : ∀ v D g5, o = some (v, D) → g = some g5 → v.ownBlock ≠ some g5

section
variable {α : Type} {k : Nat} {E : Enc α k} {T : TypeId} {wd x : World} {B0 : Nat} {a : α}
theorem AS.start (B0 : Nat) (wd : World) (h : B0 ≤ wd.heap.size) : AS E T wd B0 a wd none none :=
  ⟨Below.refl _ _, h, fun _ _ e => (by cases e), fun _ e => (by cases e), fun _ _ _ e => (by cases e)⟩
theorem AS.lit {g : Option Nat} (h : AS E T wd B0 a x none g) : AS E T wd B0 a (x.alloc (.cells #[] T)) (some (.slice (some ⟨x.heap.size, 0, none⟩) 0 0, [])) g := by
  have hb := Joins.below_alloc1 x (.cells #[] T)
  refine ⟨h.below.trans (hb.mono h.size), Nat.le_trans h.size hb.size, fun v D e => ?_, fun g5 e => (hb.block g5 (lt_of_block (h.px g5 e))).trans (h.px g5 e), fun v D g5 e e2 e3 => ?_⟩
  · cases e
    exact own_none T h.size
  · cases e
    have h1 := lt_of_block (h.px g5 e2)
    simp only [Value.ownBlock, Option.some.injEq] at e3
    omega
theorem AS.one {o : Option (Value × List α)} (h : AS E T wd B0 a x o none) {arr : Array Value} (ha : arr = (E.cells a).toArray) : AS E T wd B0 a (x.alloc (.cells arr T)) o (some x.heap.size) := by
  subst ha
  have hb := Joins.below_alloc1 x (.cells (E.cells a).toArray T)
  refine ⟨h.below.trans (hb.mono h.size), Nat.le_trans h.size hb.size, fun v D e => row_of_heap (h.own v D e) fun b hb2 => hb.block b ((h.own v D e).lt b hb2).2, fun g5 e => ?_, fun v D g5 e e2 e3 => ?_⟩
  · cases e
    exact World.alloc_heap_new x _
  · cases e2
    have := ((h.own v D e).lt _ e3).2
    omega
theorem AS.app {v : Value} {D l : List α} {g : Option Nat} (h : AS E T wd B0 a x (some (v, D)) g) (t ty : TypeId) {z u : Value} {bytes : Nat} (ht : Try.prog.underlying t = some (.slice T)) (hi : (Try.prog.info? T).map (fun i => (i.zero, i.size, i.bytes)) = some (some z, k, bytes)) (hzs : z.cells.size = k) (hby : bytes ≤ 1000)
    (hu : Rcs E x u l) {D' : List α} (hD : D ++ l = D') (h63 : D'.length ≤ 1000000) :
    ∃ la lc x', (Builtin.append_ #[t, t] ty #[v, u]).run Try.prog x = .ok (.slice la D'.length lc) x' ∧ AS E T wd B0 a x' (some (.slice la D'.length lc, D')) g := by
  subst hD
  rw [List.length_append] at h63
  obtain ⟨v', x', h1, ho, hg, hv⟩ := append_recs t T ty ht hi hzs hby (h.own v D rfl) hu h63 h.size
  obtain ⟨la, lc, rfl, _⟩ := OwnRecs.of_row ho
  rw [List.length_append]
  refine ⟨la, lc, x', h1, h.below.grown hg h.size (fun k hk => ((h.own v D rfl).lt k hk).1), Nat.le_trans h.size hg.size, fun v2 D2 e => ?_, fun g5 e => ?_, fun v2 D2 g5 e e2 e3 => ?_⟩
  · cases e
    rw [List.length_append]
    exact ho
  · exact (hg.block g5 (lt_of_block (h.px g5 e)) (fun e2 => h.ne v D g5 rfl e e2.symm)).trans (h.px g5 e)
  · cases e
    rcases hv with e4 | e4
    · exact h.ne v D g5 rfl e2 (e4.symm.trans e3)
    · have h1 := lt_of_block (h.px g5 e2)
      rw [e4, Option.some.injEq] at e3
      omega
theorem AS.rcs {o : Option (Value × List α)} {g5 : Nat} (h : AS E T wd B0 a x o (some g5)) : Rcs E x (.slice (some ⟨g5, 0, none⟩) 1 1) [a] :=
  ⟨_, _, rfl, recs_one (h.px g5 rfl) rfl, fun e => by cases e⟩
theorem AS.row {la : Option Addr} {n lc : Nat} {D : List α} {g : Option Nat} (h : AS E T wd B0 a x (some (.slice la n lc, D)) g) {x' : World} (hx : ∀ b, B0 ≤ b → b < x.heap.size → x'.heap[b]? = x.heap[b]?) : Recs E x' la D.length D := by
  have := row_of_heap (h.own _ _ rfl) (w' := x') fun b hb => hx b ((h.own _ _ rfl).lt b hb).1 ((h.own _ _ rfl).lt b hb).2
  obtain ⟨la', lc', e, hr⟩ := OwnRecs.of_row this
  cases e
  exact hr.recs
/-- .. behind a store below it. -/
theorem AS.set {la : Option Addr} {n lc : Nat} {D : List α} {g : Option Nat} (h : AS E T wd B0 a x (some (.slice la n lc, D)) g) {b o : Nat} {v : Value} (hb : b < B0) : Recs E (x.setCell ⟨b, o, none⟩ v) la D.length D :=
  h.row fun b' h1 _ => Below.heap_setCell _ _ _ _ (by simp; omega)
theorem AS.recs {la : Option Addr} {n lc : Nat} {D : List α} {g : Option Nat} (h : AS E T wd B0 a x (some (.slice la n lc, D)) g) : Recs E x la D.length D := by
  have := h.own _ _ rfl
  obtain ⟨la', lc', e, hr⟩ := OwnRecs.of_row this
  cases e
  exact hr.recs
end
end Go.Proofs.Ytmcdhggnpfhlmaa

namespace Go.Proofs.Ytmcdhggnpfhlmaa
open Go.RowKit Go.IntWalk
set_option linter.unusedSimpArgs false
set_option linter.unusedVariables false

theorem info_blk : (Try.prog.info? 57).map (fun i => (i.zero, i.size, i.bytes)) = some (some (.agg #[.string (bs []), .slice none 0 0, .int .i64 0]), 3, 48) := by kernel_rfl
theorem info_area : (Try.prog.info? 48).map (fun i => (i.zero, i.size, i.bytes)) = some (some (.agg #[.string (bs []), .int .i64 0, .int .i64 0, .int .i64 0, .int .i64 0, .int .i64 0, .int .i64 0]), 7, 64) := by kernel_rfl
theorem info_lev : (Try.prog.info? 43).map (fun i => (i.zero, i.size, i.bytes)) = some (some (.agg #[.string (bs []), .int .i64 0, .slice none 0 0, .slice none 0 0, .slice none 0 0, .slice none 0 0, .slice none 0 0, .int .i64 0]), 8, 152) := by kernel_rfl
def nmR (pre : Bst) (y : Int) (r : RowR) : RowR := { r with name := pre ++ r.name, at' := y }
def nmA (pre : Bst) (a : AreaR) : AreaR := { a with name := pre ++ a.name }
theorem mR_nm (pre : Bst) (y : Int) (r : RowR) : mR [] (nmR pre y r) = mR pre r := rfl
theorem mA_nm (pre : Bst) (a : AreaR) : mA [] (nmA pre a) = mA pre a := rfl
theorem bs_append (x y : List UInt8) : bs x ++ bs y = bs (x ++ y) := by
  unfold bs
  apply ByteArray.ext
  simp

/-- Where a block's rows lie. -/
def rowsAt (b : BlkR) : Option Nat := (Value.slice b.ra b.rn b.rc).ownBlock
structure NBlk (w0 w : World) (b : BlkR) : Prop where
  own : w.ownsRow w0.heap.size 54 8 (.slice b.ra b.rn b.rc) b.rn (flat RowE b.rows)
  rows : ∀ r ∈ b.rows, r.In w0 ∧ r.mn ≤ 1000
  rn : b.rn ≤ 8
structure NLev (w0 w : World) (l : LevR) : Prop where
  bl : w.ownsRow w0.heap.size 57 3 (.slice l.ba l.bn l.bc) l.bn (flat BlkE l.blocks)
  bk : ∀ b ∈ l.blocks, NBlk w0 w b
  ar : w.ownsRow w0.heap.size 48 7 (.slice l.aa l.an l.ac) l.an (flat AreaE l.areas)
  sm : l.Sm
  rest : Recs BoxE w0 l.sa l.sn l.aisles ∧ Recs BoxE w0 l.pa l.pn l.pillars ∧ Recs PntE w0 l.da l.dn l.doors ∧ (l.sa = none → l.sc = 0) ∧ (l.pa = none → l.pc = 0) ∧ (l.da = none → l.dc = 0)
/-- No two blocks' rows lie at one place. -/
def Apt (bs : List BlkR) : Prop := bs.Pairwise fun a b => ∀ g, rowsAt a = some g → rowsAt b ≠ some g
structure NHall (w0 w : World) (h : HallR) : Prop where
  below : Below w0.heap.size w0 w
  lv : w.ownsRow w0.heap.size 43 8 (.slice h.la h.ln h.lc) h.ln (flat LevE h.levels)
  levs : ∀ l ∈ h.levels, NLev w0 w l
  apt : Apt (h.levels.flatMap (·.blocks))
  ln : h.ln ≤ 12

theorem own_mono {w : World} {B B' : Nat} {T : TypeId} {k n : Nat} {v : Value} {xs : List Value} (h : w.ownsRow B T k v n xs) (hb : B' ≤ B) : w.ownsRow B' T k v n xs := by
  refine ⟨h.1, ?_⟩
  rcases h.2 with h0 | ⟨g, cap, cur, e, hg, r⟩
  · exact Or.inl h0
  · exact Or.inr ⟨g, cap, cur, e, Nat.le_trans hb hg, r⟩
theorem own_keep {w w' : World} {B : Nat} {T : TypeId} {k n : Nat} {v : Value} {xs : List Value} (h : w.ownsRow B T k v n xs) (K : ∀ (g : Nat) (A : Array Value) (x : Nat × Nat), w.heap[g]? = some (.cells A T x) → w'.heap[g]? = w.heap[g]?) : w'.ownsRow B T k v n xs :=
  row_of_heap h fun b hb => by
    obtain ⟨cur, hh⟩ := own_type h hb
    exact K b _ _ hh
theorem NBlk.keep {w0 w w' : World} {b : BlkR} (h : NBlk w0 w b) (K : ∀ (g : Nat) (A : Array Value) (x : Nat × Nat), w.heap[g]? = some (.cells A 54 x) → w'.heap[g]? = w.heap[g]?) : NBlk w0 w' b := ⟨own_keep h.own K, h.rows, h.rn⟩
theorem NLev.keep {w0 w w' : World} {l : LevR} (h : NLev w0 w l) (K : ∀ (g : Nat) (A : Array Value) (T : TypeId) (x : Nat × Nat), T ≠ 43 → T ≠ 26 → w.heap[g]? = some (.cells A T x) → w'.heap[g]? = w.heap[g]?) : NLev w0 w' l :=
  ⟨own_keep h.bl fun g A x => K g A _ x (by decide) (by decide), fun b hb => (h.bk b hb).keep fun g A x => K g A _ x (by decide) (by decide), own_keep h.ar fun g A x => K g A _ x (by decide) (by decide), h.sm, h.rest⟩
theorem below_keep {w w' : World} (hb : Below w.heap.size w w') (g : Nat) (A : Array Value) (T : TypeId) (x : Nat × Nat) (h : w.heap[g]? = some (.cells A T x)) : w'.heap[g]? = w.heap[g]? := hb.block g (lt_of_block h)
theorem NLev.down {w0 w w' : World} {l : LevR} (h : NLev w0 w l) (hb : Below w.heap.size w w') : NLev w0 w' l := h.keep fun g A T x _ _ e => below_keep hb g A T x e
theorem NBlk.down {w0 w w' : World} {b : BlkR} (h : NBlk w0 w b) (hb : Below w.heap.size w w') : NBlk w0 w' b := h.keep fun g A x e => below_keep hb g A _ x e
theorem NBlk.at {w0 w : World} {b : BlkR} (h : NBlk w0 w b) {g : Nat} (hg : rowsAt b = some g) : w0.heap.size ≤ g ∧ g < w.heap.size := h.own.lt g hg

theorem NBlk.in {w0 w : World} {b : BlkR} (h : NBlk w0 w b) (hb : Below w0.heap.size w0 w) : b.In w := by
  obtain ⟨la, c, e, hr⟩ := OwnRecs.of_row h.own
  cases e
  exact ⟨hr.recs, by have := h.rn; omega, fun r hr => (h.rows r hr).1.below hb⟩
theorem NLev.in {w0 w : World} {l : LevR} (h : NLev w0 w l) (hb : Below w0.heap.size w0 w) : l.In w := by
  obtain ⟨la, c, e, hr⟩ := OwnRecs.of_row h.bl
  cases e
  obtain ⟨la, c, e, hr2⟩ := OwnRecs.of_row h.ar
  cases e
  have h1 := h.sm.b
  have h2 := h.sm.rest
  obtain ⟨r1, r2, r3, r4, r5, r6⟩ := h.rest
  exact ⟨hr.recs, by omega, fun b hbm => (h.bk b hbm).in hb, hr2.recs, by omega, r1.below hb, by omega, r2.below hb, by omega, r3.below hb, by omega, r4, r5, r6⟩
theorem NLev.ac {w0 w : World} {l : LevR} (h : NLev w0 w l) : l.an ≤ l.ac := by
  rcases h.ar.2 with ⟨e, h0⟩ | ⟨g, cap, cur, e, _, _, hc, _⟩
  · simp only [Value.slice.injEq] at e; omega
  · simp only [Value.slice.injEq] at e; omega
theorem NHall.in {w0 w : World} {h : HallR} (hh : NHall w0 w h) : h.In w := by
  obtain ⟨la, c, e, hr⟩ := OwnRecs.of_row hh.lv
  cases e
  exact ⟨hr.recs, by have := hh.ln; omega, fun l hl => (hh.levs l hl).in hh.below⟩
theorem NHall.sm {w0 w : World} {h : HallR} (hh : NHall w0 w h) : h.Sm :=
  ⟨hh.ln, fun l hl => (hh.levs l hl).sm, fun l hl b hb => ((hh.levs l hl).bk b hb).rn, fun l hl b hb r hr => (((hh.levs l hl).bk b hb).rows r hr).2⟩
theorem Apt.append {xs ys : List BlkR} (hx : Apt xs) (hy : Apt ys) (T : Nat) (h1 : ∀ b ∈ xs, ∀ g, rowsAt b = some g → g < T) (h2 : ∀ b ∈ ys, ∀ g, rowsAt b = some g → T ≤ g) : Apt (xs ++ ys) := by
  unfold Apt
  rw [List.pairwise_append]
  refine ⟨hx, hy, fun a ha b hb g e e2 => ?_⟩
  have := h1 a ha g e
  have := h2 b hb g e2
  omega
theorem Apt.one (b : BlkR) : Apt [b] := List.pairwise_singleton ..
end Go.Proofs.Ytmcdhggnpfhlmaa
