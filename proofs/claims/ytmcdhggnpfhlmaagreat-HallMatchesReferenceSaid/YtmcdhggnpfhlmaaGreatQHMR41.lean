/- hall: the reference: Build: what it works on; a row's places by their numbers in the whole list. -/
import Derived.Test.YtmcdhggnpfhlmaaGreatQHMR20
import Derived.Test.YtmcdhggnpfhlmaaGreatQHMR33
import Derived.Test.YtmcdhggnpfhlmaaGreatQHMR37
import Derived.Test.YtmcdhggnpfhlmaaGreatQHMR40

set_option linter.unusedVariables false
set_option linter.unusedSimpArgs false
namespace Go.Proofs.YtmcdhggnpfhlmaaGreat
open Go.RowKit Go.IntWalk
set_option linter.unusedSimpArgs false
set_option linter.unusedVariables false

/-- An operation that is not wanted. -/
theorem ChainH.skip {P : Program} {ops : Array Oper} {N : Nat} {ds : List Deferred} {e : List (Nat × Value)} {KC : List (Nat × Value) → Prop} {S : World → Prop} {n : Nat} {r : List Nat} {o : Oper} {d : Nat} (ho : ops[n]? = some o) (hd : o.dst = some d) (hN : Nat.blt d N = true) (hw : wantedF ops e o.guard = some false)
  (h : ChainH P N ds S ops KC r ((d, undef) :: e)) : ChainH P N ds S ops KC (n :: r) e :=
 ⟨o, undef, ho, by rw [hd]; simpa [dstB, Nat.blt_eq] using hN, Or.inr ⟨hw, rfl⟩, by rw [hd]; exact h⟩

theorem run_field_mark2 (a b c : Int) (w : World) : (Instr.field 46 (.agg #[.int .i64 a, .int .i64 b, .int .i64 c]) 2).run Tryz.prog w = .ok (.int .i64 c) w := by kernel_rfl
abbrev PlTy (T : TypeId) : Prop := T = 52
theorem OwnR.tup {S : TypeId → Prop} {w0 w w' : World} {sa : Option Addr} {ca : Nat} {l : List RowR} (h : OwnR w0 w sa ca l) (ht : TUpd S w w') (hS : ¬ S 49) : OwnR w0 w' sa ca l := by
 refine row_of_heap h fun b hb => ?_
 obtain ⟨cur, hh⟩ := own_type h hb
 rw [hh]
 exact ht.keep hh hS
/-- The plan and the list of places. -/
structure BdS (w0 w : World) (h : HallR) (gh : Nat) (v : Value) (out : List PlaceR) : Prop where
 below : Below w0.heap.size w0 w
 hall : HallIn w gh h
 row : w.ownsRow w0.heap.size 52 9 v out.length (flat PlaceE out)
theorem BdS.down {w0 w w' : World} {h : HallR} {gh : Nat} {v : Value} {out : List PlaceR} (hs : BdS w0 w h gh v out) (hb : Below w.heap.size w w') : BdS w0 w' h gh v out :=
 ⟨hs.below.trans (hb.mono hs.below.size), hs.hall.down hb, row_of_heap hs.row fun b h => hb.block b (hs.row.lt b h).2⟩
theorem BdS.at {w0 w : World} {h : HallR} {gh : Nat} {v : Value} {out : List PlaceR} (hs : BdS w0 w h gh v out) : ∃ la ca, v = .slice la out.length ca := by
 obtain ⟨la, ca, rfl, _⟩ := Rcs.of_own hs.row
 exact ⟨la, ca, rfl⟩
theorem BdS.recs {w0 w : World} {h : HallR} {gh n : Nat} {la : Option Addr} {ca : Nat} {out : List PlaceR} (hs : BdS w0 w h gh (.slice la n ca) out) : Recs PlaceE w la out.length out := by
 obtain ⟨la', c, e, hr, _⟩ := Rcs.of_own hs.row
 cases e
 exact hr
/-- A place in a block of its own. -/
def PVar (w : World) (gp : Nat) (p : PlaceR) : Prop := w.heap[gp]? = some (.cells #[.int .i64 p.kind, .int .i64 p.level, .int .i64 p.block, .int .i64 p.row, .int .i64 p.seat, .int .i64 p.x, .int .i64 p.y, .int .i64 p.view, .int .i64 p.wth] 52 (0, 0))
theorem PVar.cells {w : World} {gp : Nat} {p : PlaceR} (h : PVar w gp p) : w.cell? ⟨gp, 0, none⟩ = some (.int .i64 p.kind) ∧ w.cell? ⟨gp, 1, none⟩ = some (.int .i64 p.level) ∧ w.cell? ⟨gp, 2, none⟩ = some (.int .i64 p.block) ∧ w.cell? ⟨gp, 3, none⟩ = some (.int .i64 p.row) ∧ w.cell? ⟨gp, 4, none⟩ = some (.int .i64 p.seat) ∧ w.cell? ⟨gp, 5, none⟩ = some (.int .i64 p.x) ∧ w.cell? ⟨gp, 6, none⟩ = some (.int .i64 p.y) ∧ w.cell? ⟨gp, 7, none⟩ = some (.int .i64 p.view) ∧ w.cell? ⟨gp, 8, none⟩ = some (.int .i64 p.wth) :=
 ⟨boxed_cell (j := 0) h rfl, boxed_cell (j := 1) h rfl, boxed_cell (j := 2) h rfl, boxed_cell (j := 3) h rfl, boxed_cell (j := 4) h rfl, boxed_cell (j := 5) h rfl, boxed_cell (j := 6) h rfl, boxed_cell (j := 7) h rfl, boxed_cell (j := 8) h rfl⟩
theorem PVar.free {w : World} {gp : Nat} {p : PlaceR} (h : PVar w gp p) (o : Nat) : w.frozen? ⟨gp, o, none⟩ = false := free_var h
theorem PVar.view {w : World} {gp : Nat} {p : PlaceR} (h : PVar w gp p) (x : Int) : PVar (w.setCell ⟨gp, 7, none⟩ (.int .i64 x)) gp { p with view := x } := by
 unfold PVar at *
 simp [World.setCell, Array.getElem?_modify, h]
theorem PVar.kind {w : World} {gp : Nat} {p : PlaceR} (h : PVar w gp p) (x : Int) : PVar (w.setCell ⟨gp, 0, none⟩ (.int .i64 x)) gp { p with kind := x } := by
 unfold PVar at *
 simp [World.setCell, Array.getElem?_modify, h]
theorem PVar.seat {w : World} {gp : Nat} {p : PlaceR} (h : PVar w gp p) (x : Int) : PVar (w.setCell ⟨gp, 4, none⟩ (.int .i64 x)) gp { p with seat := x } := by
 unfold PVar at *
 simp [World.setCell, Array.getElem?_modify, h]
theorem PVar.down {w w' : World} {gp : Nat} {p : PlaceR} (h : PVar w gp p) (hb : Below w.heap.size w w') : PVar w' gp p := (hb.block gp (lt_of_block h)).trans h
/-- A place in a block of its own, that is not the list's. -/
structure PvS (w0 w : World) (v : Value) (gp : Nat) (p : PlaceR) : Prop where
 at' : PVar w gp p
 base : w0.heap.size ≤ gp
 ne : v.ownBlock ≠ some gp
theorem PvS.down {w0 w w' : World} {v : Value} {gp : Nat} {p : PlaceR} (h : PvS w0 w v gp p) (hb : Below w.heap.size w w') : PvS w0 w' v gp p := ⟨h.at'.down hb, h.base, h.ne⟩
/-- A store into it. -/
theorem BdS.pset {w0 w : World} {h : HallR} {gh : Nat} {v : Value} {out : List PlaceR} {gp : Nat} {p : PlaceR} (hs : BdS w0 w h gh v out) (hp : PvS w0 w v gp p) (o : Nat) (x : Value) : BdS w0 (w.setCell ⟨gp, o, none⟩ x) h gh v out ∧ TUpd PlTy w (w.setCell ⟨gp, o, none⟩ x) := by
 have ht : TUpd PlTy w (w.setCell ⟨gp, o, none⟩ x) := TUpd.of_set hp.at' rfl
 refine ⟨⟨Below.trans hs.below (below_set hp.base), ht.keep hs.hall (by decide), row_of_heap hs.row fun b hb => ?_⟩, ht⟩
 have : gp ≠ b := fun e => hp.ne (by rw [e]; exact hb)
 exact Below.heap_setCell _ _ _ _ (by simpa using fun e => this e.symm)
/-- A place more: append's run. -/
theorem bd_app {w0 w : World} {h : HallR} {gh : Nat} {v : Value} {out : List PlaceR} {gp : Nat} {p : PlaceR} (hs : BdS w0 w h gh v out) (hp : PvS w0 w v gp p) (hl : out.length ≤ 900000) :
  ∃ v' w', (Builtin.append_ #[35, 35] 35 #[v, .slice (some ⟨w.heap.size, 0, none⟩) 1 1]).run Tryz.prog (w.alloc (.cells #[.int .i64 p.kind, .int .i64 p.level, .int .i64 p.block, .int .i64 p.row, .int .i64 p.seat, .int .i64 p.x, .int .i64 p.y, .int .i64 p.view, .int .i64 p.wth] 52)) = .ok v' w' ∧ BdS w0 w' h gh v' (out ++ [p]) ∧ PvS w0 w' v' gp p ∧ TUpd PlTy w w' := by
 have hba := Joins.below_alloc1 w (.cells #[.int .i64 p.kind, .int .i64 p.level, .int .i64 p.block, .int .i64 p.row, .int .i64 p.seat, .int .i64 p.x, .int .i64 p.y, .int .i64 p.view, .int .i64 p.wth] 52)
 have hn := recs_alloc PlaceE w 52 [p] #[.int .i64 p.kind, .int .i64 p.level, .int .i64 p.block, .int .i64 p.row, .int .i64 p.seat, .int .i64 p.x, .int .i64 p.y, .int .i64 p.view, .int .i64 p.wth] rfl
 have hsz : (w.alloc (.cells #[.int .i64 p.kind, .int .i64 p.level, .int .i64 p.block, .int .i64 p.row, .int .i64 p.seat, .int .i64 p.x, .int .i64 p.y, .int .i64 p.view, .int .i64 p.wth] 52)).heap.size = w.heap.size + 1 := by simp only [World.alloc, Array.size_push]
 have hs2 := hs.down hba
 have hp2 := hp.down hba
 generalize w.alloc (.cells #[.int .i64 p.kind, .int .i64 p.level, .int .i64 p.block, .int .i64 p.row, .int .i64 p.seat, .int .i64 p.x, .int .i64 p.y, .int .i64 p.view, .int .i64 p.wth] 52) = wa at *
 obtain ⟨v', w3, hAPP, ho3, hg, hv⟩ := append_recs (E := PlaceE) 35 52 35 Tryz.underlying35 info_place rfl (by decide) hs2.row (u := .slice (some ⟨w.heap.size, 0, none⟩) 1 1) ⟨_, _, rfl, hn, fun h => by cases h⟩ (by simp; omega) hs2.below.size
 have ht : TUpd PlTy wa w3 := TUpd.of_grown hg fun b hb => by
  obtain ⟨cur, hh⟩ := own_type hs2.row hb
  exact ⟨_, _, _, hh, rfl⟩
 have hgp := lt_of_block hp.at'
 refine ⟨v', w3, hAPP, ⟨hs2.below.grown hg hs2.below.size (fun k hk => (hs2.row.lt k hk).1), ht.keep hs2.hall (by decide), by rw [List.length_append]; exact ho3⟩, ⟨?_, hp.base, ?_⟩, (TUpd.of_below hba).trans ht⟩
 ·
  exact (hg.block gp (lt_of_block hp2.at') (fun e => hp.ne e.symm)).trans hp2.at'
 ·
  rcases hv with e | e
  ·
   rw [e]; exact hp.ne
  ·
   rw [e]
   intro e2
   simp only [Option.some.injEq] at e2
   omega

/-- While a row's places are made. -/
structure MdS (w0 w : World) (h : HallR) (gh : Nat) (v : Value) (out : List PlaceR) (l : LevR) (gl : Nat) (r : RowR) (gr : Nat) (sa : Option Addr) (sc : Nat) : Prop where
 bd : BdS w0 w h gh v out
 lev : LevIn w gl l
 row : RowIn w gr r
 seats : OwnR w0 w sa sc ((seatsS r).map (seatRow r))
section
variable {w0 w w' : World} {h : HallR} {gh : Nat} {v v' : Value} {out out' : List PlaceR} {l : LevR} {gl : Nat} {r : RowR} {gr : Nat} {sa : Option Addr} {sc : Nat} {gp : Nat} {p : PlaceR}
theorem MdS.down (hs : MdS w0 w h gh v out l gl r gr sa sc) (hb : Below w.heap.size w w') : MdS w0 w' h gh v out l gl r gr sa sc := ⟨hs.bd.down hb, hs.lev.down hb, hs.row.down hb, hs.seats.tup (TUpd.of_below (S := PlTy) hb) (by decide)⟩
theorem MdS.tup (hs : MdS w0 w h gh v out l gl r gr sa sc) (hb : BdS w0 w' h gh v' out') (ht : TUpd PlTy w w') : MdS w0 w' h gh v' out' l gl r gr sa sc := ⟨hb, hs.lev.tupd ht (by decide), ht.keep hs.row (by decide), hs.seats.tup ht (by decide)⟩
theorem MdS.pset (hs : MdS w0 w h gh v out l gl r gr sa sc) (hp : PvS w0 w v gp p) (o : Nat) (x : Value) : MdS w0 (w.setCell ⟨gp, o, none⟩ x) h gh v out l gl r gr sa sc :=
 let ⟨h1, h2⟩ := hs.bd.pset hp o x; hs.tup h1 h2
end

/-! ### A row's places by their numbers in the whole list -/
def rowA (h : HallR) (l : LevR) (n i k : Nat) (r : RowR) (X : List PlaceR) (ia c : Nat) : List PlaceR := X ++ rowQ h l n i k r X.length (ia - X.length) (c - X.length)
section
variable {h : HallR} {l : LevR} {n i k : Nat} {r : RowR} {X : List PlaceR} {ia ib j c T : Nat}
theorem rowA_len : (rowA h l n i k r X ia c).length = X.length + (seatsS r).length := by
 unfold rowA
 rw [List.length_append, rowQ_len]
theorem rowA_start (hT : T = X.length + (seatsS r).length) : rowA h l n i k r X X.length T = X ++ (seatsS r).map (seatPlace h l n i k r) := by
 unfold rowA
 rw [Nat.sub_self, hT, Nat.add_sub_cancel_left, rowQ_start]
theorem rowA_round (hw : Wheels r) (hT : T = X.length + (seatsS r).length) (h1 : X.length ≤ ia) (h2 : ia < T) : rowA h l n i k r X ia X.length = rowA h l n i k r X (ia + 1) T := by
 unfold rowA
 rw [Nat.sub_self, hT, Nat.add_sub_cancel_left, rowQ_round hw (by omega)]
 have : ia - X.length + 1 = ia + 1 - X.length := by omega
 rw [this]
theorem rowA_done (hT : T = X.length + (seatsS r).length) : rowA h l n i k r X T c = X ++ rowPlaces h l n i k r X.length := by
 unfold rowA
 rw [hT, Nat.add_sub_cancel_left, rowQ_done]
theorem app_get {α : Type} {X Q L : List α} {j : Nat} (e : L = X ++ Q) (h1 : X.length ≤ j) (h : j < L.length) (h2 : j - X.length < Q.length) : L[j]'h = Q[j - X.length]'h2 := by
 subst e
 exact List.getElem_append_right h1
theorem rowA_elem (hT : T = X.length + (seatsS r).length) (h1 : X.length ≤ j) (h2 : j < T) (h3 : j < (rowA h l n i k r X ia c).length) (h4 : j - X.length < (seatsS r).length) :
  ((rowA h l n i k r X ia c)[j]'h3).kind = kindS (markS r.marks (seatsS r)[j - X.length].1).kind ∧ ((rowA h l n i k r X ia c)[j]'h3).seat = (seatsS r)[j - X.length].1 := by
 have h6 : j - X.length < (rowQ h l n i k r X.length (ia - X.length) (c - X.length)).length := by rw [rowQ_len]; exact h4
 have e2 : (rowA h l n i k r X ia c)[j]'h3 = (rowQ h l n i k r X.length (ia - X.length) (c - X.length))[j - X.length]'h6 := app_get rfl h1 h3 h6
 rw [e2, rowQ_at h4]
 exact ⟨rfl, rfl⟩
theorem rowA_no (hT : T = X.length + (seatsS r).length) (h1 : X.length ≤ ia) (h2 : ia < T) (h3 : X.length ≤ ib) (h4 : ib < T) (ha : ia - X.length < (seatsS r).length) (hb : ib - X.length < (seatsS r).length) (hp : pairB r (seatsS r)[ia - X.length] (seatsS r)[ib - X.length] = false) :
  rowA h l n i k r X ia ib = rowA h l n i k r X ia (ib + 1) := by
 unfold rowA
 have : ib + 1 - X.length = ib - X.length + 1 := by omega
 rw [this, rowQ_no ha hb hp]
theorem rowA_yes (hT : T = X.length + (seatsS r).length) (h1 : X.length ≤ ia) (h2 : ia < T) (h3 : X.length ≤ ib) (h4 : ib < T) (ha : ia - X.length < (seatsS r).length) (hb : ib - X.length < (seatsS r).length) (hp : pairB r (seatsS r)[ia - X.length] (seatsS r)[ib - X.length] = true)
  (h5 : ia < (rowA h l n i k r X ia (ib + 1)).length) : rowA h l n i k r X ia ib = (rowA h l n i k r X ia (ib + 1)).set ia { (rowA h l n i k r X ia (ib + 1))[ia]'h5 with wth := (ib : Int) } := by
 have e1 : (rowA h l n i k r X ia (ib + 1))[ia]'h5 = { seatPlace h l n i k r (seatsS r)[ia - X.length] with wth := withQ r X.length (seatsS r)[ia - X.length] (ib - X.length + 1) } := by
  have h6 : ia - X.length < (rowQ h l n i k r X.length (ia - X.length) (ib - X.length + 1)).length := by rw [rowQ_len]; exact ha
  have e2 : (rowA h l n i k r X ia (ib + 1))[ia]'h5 = (rowQ h l n i k r X.length (ia - X.length) (ib - X.length + 1))[ia - X.length]'h6 := by
   refine app_get ?_ h1 h5 h6
   have : ib + 1 - X.length = ib - X.length + 1 := by omega
   rw [← this]
   rfl
  rw [e2, rowQ_at ha, if_neg (by omega), if_pos rfl]
 rw [e1]
 unfold rowA
 have : ib + 1 - X.length = ib - X.length + 1 := by omega
 rw [this, rowQ_yes ha hb hp, List.set_append_right _ _ h1]
 have h7 : X.length + (ib - X.length) = ib := by omega
 rw [h7]
end
theorem areaPlaces_get {h : HallR} {l : LevR} {n i s : Nat} {a : AreaR} (hs : s < (areaPlaces h l n i a).length) : (areaPlaces h l n i a)[s] = ⟨3, n, (l.blocks.length + i : Nat), -1, (s : Int) + 1, Int.tdiv (a.box.x + a.box.x2) 2, Int.tdiv (a.box.y + a.box.y2) 2, viewS h.stage l ⟨Int.tdiv (a.box.x + a.box.x2) 2, Int.tdiv (a.box.y + a.box.y2) 2⟩, -1⟩ := by
 simp [areaPlaces]
theorem kindS_two {k : Int} : kindS k = 2 ↔ k = 4 := by
 unfold kindS
 split
 ·
  constructor <;> intro h <;> omega
 ·
  split <;> constructor <;> intro h <;> omega
theorem kindS_one {k : Int} : kindS k = 1 ↔ k = 2 := by
 unfold kindS
 split
 ·
  simp; omega
 ·
  split <;> constructor <;> intro h <;> omega
end Go.Proofs.YtmcdhggnpfhlmaaGreat
