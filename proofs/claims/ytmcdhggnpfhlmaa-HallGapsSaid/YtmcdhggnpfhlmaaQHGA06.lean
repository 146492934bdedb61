/- hall: foyerlaw10.named: the states of its loops. -/
import Derived.Test.YtmcdhggnpfhlmaaQHGA05

namespace Go.Proofs.Ytmcdhggnpfhlmaa
open Go.RowKit Go.IntWalk
set_option linter.unusedSimpArgs false
set_option linter.unusedVariables false

theorem LevIn.setName {w : World} {g : Nat} {l : LevR} (h : LevIn w g l) (s : Bst) : LevIn (w.setCell ⟨g, 0, none⟩ (.string (bs s))) g { l with name := s } := by
  unfold LevIn at *
  simp [World.setCell, Array.getElem?_modify, h]
theorem LevIn.setAt {w : World} {g : Nat} {l : LevR} (h : LevIn w g l) (x : Int) : LevIn (w.setCell ⟨g, 7, none⟩ (.int .i64 x)) g { l with at' := x } := by
  unfold LevIn at *
  simp [World.setCell, Array.getElem?_modify, h]
theorem LevIn.setBlocks {w : World} {g : Nat} {l : LevR} (h : LevIn w g l) (a : Option Addr) (n c : Nat) (x : List BlkR) : LevIn (w.setCell ⟨g, 2, none⟩ (.slice a n c)) g { l with ba := a, bn := n, bc := c, blocks := x } := by
  unfold LevIn at *
  simp [World.setCell, Array.getElem?_modify, h]
theorem LevIn.setAreas {w : World} {g : Nat} {l : LevR} (h : LevIn w g l) (a : Option Addr) (n c : Nat) (x : List AreaR) : LevIn (w.setCell ⟨g, 3, none⟩ (.slice a n c)) g { l with aa := a, an := n, ac := c, areas := x } := by
  unfold LevIn at *
  simp [World.setCell, Array.getElem?_modify, h]
theorem BlkIn.setName {w : World} {g : Nat} {b : BlkR} (h : BlkIn w g b) (s : Bst) : BlkIn (w.setCell ⟨g, 0, none⟩ (.string (bs s))) g { b with name := s } := by
  unfold BlkIn at *
  simp [World.setCell, Array.getElem?_modify, h]
theorem BlkIn.setRows {w : World} {g : Nat} {b : BlkR} (h : BlkIn w g b) (a : Option Addr) (n c : Nat) (x : List RowR) : BlkIn (w.setCell ⟨g, 1, none⟩ (.slice a n c)) g { b with ra := a, rn := n, rc := c, rows := x } := by
  unfold BlkIn at *
  simp [World.setCell, Array.getElem?_modify, h]
theorem RowIn.setName {w : World} {g : Nat} {r : RowR} (h : RowIn w g r) (s : Bst) : RowIn (w.setCell ⟨g, 0, none⟩ (.string (bs s))) g { r with name := s } := by
  unfold RowIn at *
  simp [World.setCell, Array.getElem?_modify, h]
theorem RowIn.setAt {w : World} {g : Nat} {r : RowR} (h : RowIn w g r) (x : Int) : RowIn (w.setCell ⟨g, 7, none⟩ (.int .i64 x)) g { r with at' := x } := by
  unfold RowIn at *
  simp [World.setCell, Array.getElem?_modify, h]
theorem AreaIn.setName {w : World} {g : Nat} {a : AreaR} (h : AreaIn w g a) (s : Bst) : AreaIn (w.setCell ⟨g, 0, none⟩ (.string (bs s))) g { a with name := s } := by
  unfold AreaIn at *
  simp [World.setCell, Array.getElem?_modify, h]
theorem HallIn.setX {w : World} {g : Nat} {h : HallR} (hh : HallIn w g h) (x : Int) : HallIn (w.setCell ⟨g, 1, none⟩ (.int .i64 x)) g { h with stage := ⟨x, h.stage.y⟩ } := by
  unfold HallIn at *
  simp [World.setCell, Array.getElem?_modify, hh]
theorem HallIn.setY {w : World} {g : Nat} {h : HallR} (hh : HallIn w g h) (y : Int) : HallIn (w.setCell ⟨g, 2, none⟩ (.int .i64 y)) g { h with stage := ⟨h.stage.x, y⟩ } := by
  unfold HallIn at *
  simp [World.setCell, Array.getElem?_modify, hh]
theorem HallIn.setLevels {w : World} {g : Nat} {h : HallR} (hh : HallIn w g h) (a : Option Addr) (n c : Nat) (x : List LevR) : HallIn (w.setCell ⟨g, 3, none⟩ (.slice a n c)) g { h with la := a, ln := n, lc := c, levels := x } := by
  unfold HallIn at *
  simp [World.setCell, Array.getElem?_modify, hh]
theorem set_other {w : World} {g b o : Nat} {v : Value} (h : b ≠ g) : (w.setCell ⟨g, o, none⟩ v).heap[b]? = w.heap[b]? := Below.heap_setCell _ _ _ _ (by simpa using h)

theorem take_map_next {α β : Type} (f : α → β) {xs : List α} {i : Nat} (hi : i < xs.length) : (xs.take (i + 1)).map f = (xs.take i).map f ++ [f xs[i]] := by
  rw [List.take_succ_eq_append_getElem hi, List.map_append]
  rfl

/-- The blocks of a level, the first i of them. -/
structure BSt (w0 wB w : World) (pre : Bst) (l : LevR) (i : Nat) (bs : List BlkR) (lb : Option Addr) (cb : Nat) : Prop where
  below : Below wB.heap.size wB w
  own : w.ownsRow wB.heap.size 57 3 (.slice lb bs.length cb) bs.length (flat BlkE bs)
  bk : ∀ b ∈ bs, NBlk w0 w b
  lo : ∀ b ∈ bs, ∀ g, rowsAt b = some g → wB.heap.size ≤ g
  apt : Apt bs
  eq : bs.map (mB []) = (l.blocks.take i).map (mB pre)
theorem BSt.len {w0 wB w : World} {pre : Bst} {l : LevR} {i : Nat} {bs : List BlkR} {lb : Option Addr} {cb : Nat} (h : BSt w0 wB w pre l i bs lb cb) (hi : i ≤ l.blocks.length) : bs.length = i := by
  have := congrArg List.length h.eq
  simpa [Nat.min_eq_left hi] using this
theorem BSt.start (w0 wB : World) (pre : Bst) (l : LevR) : BSt w0 wB wB pre l 0 [] none 0 :=
  ⟨Below.refl _ _, nil_row, fun _ h => (by cases h), fun _ h => (by cases h), List.Pairwise.nil, rfl⟩
theorem BSt.down {w0 wB w w' : World} {pre : Bst} {l : LevR} {i : Nat} {bs : List BlkR} {lb : Option Addr} {cb : Nat} (h : BSt w0 wB w pre l i bs lb cb) (hb : Below w.heap.size w w') : BSt w0 wB w' pre l i bs lb cb :=
  ⟨h.below.trans (hb.mono h.below.size), own_keep h.own fun g A x e => below_keep hb g A _ x e, fun b hbm => (h.bk b hbm).down hb, h.lo, h.apt, h.eq⟩
theorem BSt.push {w0 wB w x : World} {pre : Bst} {l : LevR} {i : Nat} {bs : List BlkR} {lb : Option Addr} {cb : Nat} (h : BSt w0 wB w pre l i bs lb cb) (hi : i < l.blocks.length) {b : BlkR} (hb : NBlk w0 w b) (he : mB [] b = mB pre l.blocks[i]) (T : Nat)
    (hT : ∀ b ∈ bs, ∀ g, rowsAt b = some g → g < T) (hT2 : ∀ g, rowsAt b = some g → T ≤ g) (hBT : wB.heap.size ≤ T) {la : Option Addr} {lc : Nat}
    (ho : x.ownsRow wB.heap.size 57 3 (.slice la (bs ++ [b]).length lc) (bs ++ [b]).length (flat BlkE (bs ++ [b]))) (hg : w.grownBy x (Value.slice lb bs.length cb).ownBlock) : BSt w0 wB x pre l (i + 1) (bs ++ [b]) la lc := by
  have K : ∀ (g : Nat) (A : Array Value) (T : TypeId) (y : Nat × Nat), T ≠ 57 → w.heap[g]? = some (.cells A T y) → x.heap[g]? = w.heap[g]? := fun g A T y hT e => hg.block g (lt_of_block e) fun e2 => by
    obtain ⟨cur, hh⟩ := own_type h.own e2.symm
    exact type_ne e hh hT rfl
  refine ⟨h.below.grown hg h.below.size (fun k hk => (h.own.lt k hk).1), ho, fun b' hb' => ?_, fun b' hb' => ?_, h.apt.append (Apt.one b) T hT (fun b' hb' => ?_), ?_⟩
  · rcases List.mem_append.1 hb' with hb' | hb'
    · exact (h.bk b' hb').keep fun g A y e => K g A _ y (by decide) e
    · rw [List.mem_singleton.1 hb']
      exact hb.keep fun g A y e => K g A _ y (by decide) e
  · rcases List.mem_append.1 hb' with hb' | hb'
    · exact h.lo b' hb'
    · rw [List.mem_singleton.1 hb']
      exact fun g e => Nat.le_trans hBT (hT2 g e)
  · rw [List.mem_singleton.1 hb']
    exact hT2
  · rw [take_map_next _ hi, List.map_append, h.eq]
    simp [he]

/-- The plan, the first n of its levels. -/
structure NSt (w0 w : World) (h : HallR) (gh gp go : Nat) (pre : Bst) (n : Nat) (ls : List LevR) (lo : Option Addr) (co : Nat) : Prop where
  below : Below w0.heap.size w0 w
  hh : HallIn w gh h
  hp : w.heap[gp]? = some (.cells #[.string ⟨#[]⟩, .int .i64 0, .int .i64 0, .slice none 0 0] 26 (0, 0))
  ho : HallIn w go ⟨[], h.stage, lo, ls.length, co, []⟩
  lv : w.ownsRow w0.heap.size 43 8 (.slice lo ls.length co) ls.length (flat LevE ls)
  levs : ∀ l ∈ ls, NLev w0 w l
  apt : Apt (ls.flatMap (·.blocks))
  eq : ls.map (mL []) = (h.levels.take n).map (mL pre)
  ne : w0.heap.size ≤ gh ∧ gh < gp ∧ gp < go
section
variable {w0 w x w' : World} {h : HallR} {gh gp go n co : Nat} {pre : Bst} {ls : List LevR} {lo : Option Addr}
theorem NSt.len (hn : NSt w0 w h gh gp go pre n ls lo co) (hi : n ≤ h.levels.length) : ls.length = n := by
  have := congrArg List.length hn.eq
  simpa [Nat.min_eq_left hi] using this
theorem NSt.down (hn : NSt w0 w h gh gp go pre n ls lo co) (hb : Below w.heap.size w w') : NSt w0 w' h gh gp go pre n ls lo co :=
  ⟨hn.below.trans (hb.mono hn.below.size), hn.hh.down hb, (hb.block gp (lt_of_block hn.hp)).trans hn.hp, hn.ho.down hb, own_keep hn.lv fun g A x e => below_keep hb g A _ x e, fun l hl => (hn.levs l hl).down hb, hn.apt, hn.eq, hn.ne⟩
theorem NSt.at (hn : NSt w0 w h gh gp go pre n ls lo co) : ∀ b ∈ ls.flatMap (·.blocks), ∀ g, rowsAt b = some g → g < w.heap.size := fun b hb g hg => by
  obtain ⟨l, hl, hb⟩ := List.mem_flatMap.1 hb
  exact (((hn.levs l hl).bk b hb).at hg).2
theorem NSt.push (hn : NSt w0 w h gh gp go pre n ls lo co) (hi : n < h.levels.length) {l : LevR} (hl : NLev w0 w l) (he : mL [] l = mL pre h.levels[n]) (T : Nat)
    (hT : ∀ b ∈ ls.flatMap (·.blocks), ∀ g, rowsAt b = some g → g < T) (hT2 : ∀ b ∈ l.blocks, ∀ g, rowsAt b = some g → T ≤ g) (hap : Apt l.blocks) {la : Option Addr} {lc : Nat}
    (ho : x.ownsRow w0.heap.size 43 8 (.slice la (ls ++ [l]).length lc) (ls ++ [l]).length (flat LevE (ls ++ [l]))) (hg : w.grownBy x (Value.slice lo ls.length co).ownBlock) :
    NSt w0 (x.setCell ⟨go, 3, none⟩ (.slice la (ls ++ [l]).length lc)) h gh gp go pre (n + 1) (ls ++ [l]) la lc := by
  have K : ∀ (g : Nat) (A : Array Value) (T : TypeId) (y : Nat × Nat), T ≠ 43 → w.heap[g]? = some (.cells A T y) → x.heap[g]? = w.heap[g]? := fun g A T y hT e => hg.block g (lt_of_block e) fun e2 => by
    obtain ⟨cur, hh⟩ := own_type hn.lv e2.symm
    exact type_ne e hh hT rfl
  have hgo : HallIn x go ⟨[], h.stage, lo, ls.length, co, []⟩ := (K go _ _ _ (by decide) hn.ho).trans hn.ho
  have K2 : ∀ (g : Nat) (A : Array Value) (T : TypeId) (y : Nat × Nat), T ≠ 26 → x.heap[g]? = some (.cells A T y) → (x.setCell ⟨go, 3, none⟩ (.slice la (ls ++ [l]).length lc)).heap[g]? = x.heap[g]? := fun g A T y hT e => set_other (type_ne e hgo hT)
  have KK : ∀ (g : Nat) (A : Array Value) (T : TypeId) (y : Nat × Nat), T ≠ 43 → T ≠ 26 → w.heap[g]? = some (.cells A T y) → (x.setCell ⟨go, 3, none⟩ (.slice la (ls ++ [l]).length lc)).heap[g]? = w.heap[g]? := fun g A T y h1 h2 e => by
    have h3 := K g A T y h1 e
    exact (K2 g A T y h2 (h3.trans e)).trans h3
  obtain ⟨n1, n2, n3⟩ := hn.ne
  refine ⟨(hn.below.grown hg hn.below.size (fun k hk => (hn.lv.lt k hk).1)).trans (below_set (by omega)), ?_, ?_, hgo.setLevels _ _ _ _, own_keep ho fun g A y e => K2 g A _ y (by decide) e, fun l' hl' => ?_, ?_, ?_, hn.ne⟩
  · exact (set_other (by omega)).trans ((K gh _ _ _ (by decide) hn.hh).trans hn.hh)
  · exact (set_other (by omega)).trans ((K gp _ _ _ (by decide) hn.hp).trans hn.hp)
  · rcases List.mem_append.1 hl' with hl' | hl'
    · exact (hn.levs l' hl').keep KK
    · rw [List.mem_singleton.1 hl']
      exact hl.keep KK
  · rw [List.flatMap_append, List.flatMap_cons, List.flatMap_nil, List.append_nil]
    exact hn.apt.append hap T hT hT2
  · rw [take_map_next _ hi, List.map_append, hn.eq]
    simp [he]
end
end Go.Proofs.Ytmcdhggnpfhlmaa
