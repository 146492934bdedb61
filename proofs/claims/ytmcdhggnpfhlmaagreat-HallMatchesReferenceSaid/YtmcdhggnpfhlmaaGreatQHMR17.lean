/- hall: places: maps from numbers to numbers; a cell of an own list is stored into; hall: places$1: a place of a row. -/
import Derived.Test.YtmcdhggnpfhlmaaGreatQHMR13
import Derived.Test.YtmcdhggnpfhlmaaGreatQHMR15
import Derived.Test.YtmcdhggnpfhlmaaGreatQHMR16
import Derived.Laws.CopyOwn
import Derived.Laws.Tables

set_option linter.unusedVariables false
set_option linter.unusedSimpArgs false
namespace Go.Proofs.YtmcdhggnpfhlmaaGreat
open Go.RowKit Go.IntWalk Go.Maps Go.WideMaps
set_option linter.unusedSimpArgs false
set_option linter.unusedVariables false

/-- A map of numbers, of the call's own, with at most n entries. -/
def IMap (w : World) (M n : Nat) (f : Int → Int) : Prop := ∃ E : List EntT, AscV E ∧ w.ownsMap Tryz.prog 3 RV M E.length (mapV E) ∧ E.length ≤ n ∧ ∀ k, (lookV E k).getD (.int .i64 0) = .int .i64 (f k)

theorem IMap.made (w : World) : IMap (w.alloc (.map #[] 0)) w.heap.size 0 (fun _ => 0) := ⟨[], List.Pairwise.nil, World.ownsMap_made _ _ _ _, Nat.le_refl _, fun k => rfl⟩
theorem IMap.heap {w w' : World} {M n : Nat} {f : Int → Int} (h : IMap w M n f) (e : w'.heap[M]? = w.heap[M]?) : IMap w' M n f :=
 let ⟨E, a, b, c, d⟩ := h; ⟨E, a, ownsMap_heap b e, c, d⟩
theorem IMap.blk {w : World} {M n : Nat} {f : Int → Int} (h : IMap w M n f) : ∃ es clock, w.heap[M]? = some (.map es clock) := let ⟨_, _, b, _⟩ := h; ownsMap_blk b
theorem IMap.down {w w' : World} {M n : Nat} {f : Int → Int} (h : IMap w M n f) (hb : Below w.heap.size w w') : IMap w' M n f := h.heap (by
 obtain ⟨es, c, e⟩ := h.blk
 exact hb.block M (lt_of_block e))
theorem IMap.look {w : World} {M n : Nat} {f : Int → Int} {k : Int} (h : IMap w M n f) (hk : (Lit.int .i64 k).wf = true) : (Instr.lookup 104 (.map (some M)) (.int .i64 k) false).run Tryz.prog w = .ok (.int .i64 (f k)) w := by
 obtain ⟨E, _, b, _, d⟩ := h
 rw [lookV_no Tryz.underlying104 (z := .int .i64 0) (by kernel_rfl) b hk, d k]
theorem IMap.set {w : World} {M n : Nat} {f : Int → Int} {k : Int} (h : IMap w M n f) (hk : (Lit.int .i64 k).wf = true) (hn : n ≤ 1000000) (y : Int) : ∃ w', (Instr.mapUpdate 104 (.map (some M)) (.int .i64 k) (.int .i64 y)).run Tryz.prog w = .ok () w' ∧ IMap w' M (n + 1) (fun j => if j = k then y else f j) ∧ w.grownBy w' (some M) := by
 obtain ⟨E, a, b, c, d⟩ := h
 obtain ⟨w', h1, h2, h3⟩ := b.update lawI Tryz.underlying104 (by unfold maxLen; omega) (keyOf_int_mk Tryz.underlying3 hk) (val := .int .i64 y) (d := .held (.int .i64 y)) (ps := []) rfl
 rw [mapV_put a] at h2
 have hl : (putV E k (.int .i64 y)).length ≤ E.length + 1 := putV_len E k _
 obtain ⟨es, clock, q1, q2, q3, q4⟩ := h2
 have h4 := tightV (E := putV E k (.int .i64 y)) ⟨es, clock, q1, q2, q3, q4⟩
 refine ⟨w', h1, ⟨putV E k (.int .i64 y), putV_asc a k _, h4, by omega, fun j => ?_⟩, h3⟩
 rw [look_put a]
 by_cases e : j = k
 ·
  simp [e]
 ·
  simp only [e, if_false]; exact d j

/-- A cell of an own list of records is stored into. -/
theorem own_set {α : Type} {k : Nat} {E : Enc α k} {w : World} {B n g cap : Nat} {T : TypeId} {xs : List α} (h : w.ownsRow B T k (.slice (some ⟨g, 0, none⟩) n cap) n (flat E xs)) (i j : Nat) (x : α) (v : Value) (hi : i < xs.length) (hj : j < k)
  (hx : ∀ q, q < k → (E.cells x).getD q (.bool false) = if j = q then v else rc E xs i q) : (w.setCell ⟨g, i * k + j, none⟩ v).ownsRow B T k (.slice (some ⟨g, 0, none⟩) n cap) n (flat E (xs.set i x)) := by
 have hl : xs.length = n := by
  have := h.1
  rw [flat_len] at this
  exact Nat.eq_of_mul_eq_mul_right E.pos this
 obtain ⟨g', c', e1, _, _, _, hr⟩ := RecRow.of_row (by omega) h
 simp only [Value.slice.injEq, Option.some.injEq, Addr.mk.injEq] at e1
 obtain ⟨⟨rfl, _, _⟩, _, rfl⟩ := e1
 obtain ⟨arr, e, s, c⟩ := hr.put i j x v hi hj hx
 rcases h.2 with ⟨h0, _⟩ | ⟨g2, cap2, cur, e2, hb, hg, hnc, hcm, hsz, ht⟩
 ·
  cases h0
 simp only [Value.slice.injEq, Option.some.injEq, Addr.mk.injEq] at e2
 obtain ⟨⟨rfl, _, _⟩, _, rfl⟩ := e2
 have hg' : (w.setCell ⟨g, i * k + j, none⟩ v).heap[g]? = some (.cells (cur.setIfInBounds (i * k + j) v) T (0, 0)) := by simp [World.setCell, Array.getElem?_modify, hg]
 rw [hg'] at e
 simp only [Option.some.injEq, Obj.cells.injEq, and_true] at e
 refine ⟨by rw [flat_len, List.length_set, hl], .inr ⟨g, cap, _, rfl, hb, hg', hnc, hcm, by simpa using hsz, ?_⟩⟩
 rw [e] at *
 apply List.ext_getElem?
 intro p
 have hk := E.pos
 by_cases hp : p < n * k
 ·
  rw [List.getElem?_take_of_lt hp, Array.getElem?_toList]
  have h1 : p / k < (xs.set i x).length := by
   rw [List.length_set, hl]
   exact (Nat.div_lt_iff_lt_mul hk).2 hp
  have h2 : p % k < k := Nat.mod_lt _ hk
  have h3 : p / k * k + p % k = p := by rw [Nat.mul_comm]; exact Nat.div_add_mod p k
  have h4 := c (p / k) (p % k) h1 h2
  have h5 := flat_get (E := E) (xs.set i x) (p / k) (p % k) h1 h2
  rw [h3] at h4 h5
  rw [h4, h5]
 ·
  rw [List.getElem?_eq_none (by rw [List.length_take]; omega), List.getElem?_eq_none (by rw [flat_len, List.length_set, hl]; omega)]

/-- The places so far, in a variable. -/
structure OutAt (w0 w : World) (g : Nat) (out : List PlaceR) : Prop where
 base : w0.heap.size ≤ g
 row : ∃ v, w.heap[g]? = some (.cells #[v] 35 (0, 0)) ∧ w.ownsRow w0.heap.size 52 9 v out.length (flat PlaceE out)
theorem OutAt.keep {w0 w w' : World} {g : Nat} {out : List PlaceR} {S : Nat → Obj → Prop} (h : OutAt w0 w g out) (hk : KUpd S w w') (h1 : ∀ b arr x, w.heap[b]? = some (.cells arr 52 x) → ¬ S b (.cells arr 52 x)) (h2 : ∀ b arr x, w.heap[b]? = some (.cells arr 35 x) → ¬ S b (.cells arr 35 x)) : OutAt w0 w' g out := by
 obtain ⟨v, hv, ho⟩ := h.row
 refine ⟨h.base, v, hk.block _ _ hv (h2 _ _ _ hv), row_of_heap ho fun r hr => ?_⟩
 obtain ⟨cur, hh⟩ := own_type ho hr
 rw [hh]
 exact hk.block _ _ hh (h1 _ _ _ hh)
theorem OutAt.down {w0 w w' : World} {g : Nat} {out : List PlaceR} (h : OutAt w0 w g out) (hb : Below w.heap.size w w') : OutAt w0 w' g out := h.keep (S := fun _ _ => False) (KUpd.of_below hb) (fun _ _ _ _ h => h) (fun _ _ _ _ h => h)

/-- What the calls for a row's places change. -/
def PlT (M g : Nat) (b : Nat) (o : Obj) : Prop := b = M ∨ b = g ∨ ∃ arr x, o = .cells arr 52 x

def VarI (w : World) (g : Nat) (n : Int) : Prop := w.heap[g]? = some (.cells #[.int .i64 n] 3 (0, 0))

structure Plc1 (w0 : World) (h : HallR) (r : RowR) (n i k gn gi gk gr gh g3 gm M : Nat) (w : World) (out : List PlaceR) (N : Nat) (f : Int → Int) : Prop where
 below : Below w0.heap.size w0 w
 cn : VarI w gn n
 ci : VarI w gi i
 ck : VarI w gk k
 row : RowIn w gr r
 hall : HallIn w gh h
 out : OutAt w0 w g3 out
 bm : w0.heap.size ≤ M
 mv : w.heap[gm]? = some (.cells #[.map (some M)] 104 (0, 0))
 map : IMap w M N f
theorem Plc1.down {w0 w w' : World} {h : HallR} {r : RowR} {n i k gn gi gk gr gh g3 gm M N : Nat} {out : List PlaceR} {f : Int → Int} (hp : Plc1 w0 h r n i k gn gi gk gr gh g3 gm M w out N f) (hb : Below w.heap.size w w') : Plc1 w0 h r n i k gn gi gk gr gh g3 gm M w' out N f :=
 ⟨hp.below.trans (hb.mono hp.below.size), (hb.block gn (lt_of_block hp.cn)).trans hp.cn, (hb.block gi (lt_of_block hp.ci)).trans hp.ci, (hb.block gk (lt_of_block hp.ck)).trans hp.ck, hp.row.down hb, hp.hall.down hb, hp.out.down hb, hp.bm, (hb.block gm (lt_of_block hp.mv)).trans hp.mv, hp.map.down hb⟩
end Go.Proofs.YtmcdhggnpfhlmaaGreat

namespace Go.Proofs.YtmcdhggnpfhlmaaGreat
open Go.RowKit Go.IntWalk Go.Maps Go.WideMaps
set_option linter.unusedSimpArgs false
set_option linter.unusedVariables false

theorem Plc1.upd {w0 w w' : World} {h : HallR} {r : RowR} {n i k gn gi gk gr gh g3 gm M N N' : Nat} {out out' : List PlaceR} {f f' : Int → Int} (hp : Plc1 w0 h r n i k gn gi gk gr gh g3 gm M w out N f) (hb : Below w0.heap.size w0 w') (hk : KUpd (PlT M g3) w w') (ho : OutAt w0 w' g3 out') (hm : IMap w' M N' f') :
  Plc1 w0 h r n i k gn gi gk gr gh g3 gm M w' out' N' f' := by
 obtain ⟨es, c, hM⟩ := hp.map.blk
 obtain ⟨v, hv, _⟩ := hp.out.row
 have key : ∀ {b : Nat} {A : Array Value} {T : TypeId} {x : Nat × Nat}, w.heap[b]? = some (.cells A T x) → T ≠ 52 → T ≠ 35 → w'.heap[b]? = some (.cells A T x) := fun hh h1 h2 => hk.block _ _ hh (by
  rintro (rfl | rfl | ⟨arr, y, e⟩)
  ·
   rw [hM] at hh; cases hh
  ·
   rw [hv] at hh; cases hh; exact h2 rfl
  ·
   cases e; exact h1 rfl)
 exact ⟨hb, key hp.cn (by decide) (by decide), key hp.ci (by decide) (by decide), key hp.ck (by decide) (by decide), key hp.row (by decide) (by decide), key hp.hall (by decide) (by decide), ho, hp.bm, key hp.mv (by decide) (by decide), hm⟩

/-- A cell of a block. -/
theorem set_in {w : World} {g o : Nat} {T : TypeId} {v : Value} {x : Nat × Nat} {arr : Array Value} (h : w.heap[g]? = some (.cells arr T x)) : (w.setCell ⟨g, o, none⟩ v).heap[g]? = some (.cells (arr.setIfInBounds o v) T x) := by
 simp [World.setCell, Array.getElem?_modify, h]

/-- A place of its own is changed. -/
theorem Plc1.own {w0 w : World} {h : HallR} {r : RowR} {n i k gn gi gk gr gh g3 gm M N gp o : Nat} {out : List PlaceR} {f : Int → Int} {A : Array Value} {u : Value} (hp : Plc1 w0 h r n i k gn gi gk gr gh g3 gm M w out N f) (hx : w.heap[gp]? = some (.cells A 52 (0, 0))) (hB : w0.heap.size ≤ gp)
  (hne : ∀ v, w.heap[g3]? = some (.cells #[v] 35 (0, 0)) → v.ownBlock ≠ some gp) :
  Plc1 w0 h r n i k gn gi gk gr gh g3 gm M (w.setCell ⟨gp, o, none⟩ u) out N f ∧ KUpd (PlT M g3) w (w.setCell ⟨gp, o, none⟩ u) ∧ ∀ v, (w.setCell ⟨gp, o, none⟩ u).heap[g3]? = some (.cells #[v] 35 (0, 0)) → v.ownBlock ≠ some gp := by
 have hk : KUpd (PlT M g3) w (w.setCell ⟨gp, o, none⟩ u) := KUpd.of_set hx (Or.inr (Or.inr ⟨_, _, rfl⟩))
 obtain ⟨es, c, hM⟩ := hp.map.blk
 obtain ⟨v, hv, ho⟩ := hp.out.row
 have hv' := set_keep (u := u) (o := o) hx hv (by decide)
 refine ⟨hp.upd (hp.below.trans (below_set hB)) hk ⟨hp.out.base, v, hv', row_of_heap ho fun b hb => Below.heap_setCell _ _ _ _ (fun e => hne v hv (by rw [hb]; simpa using e))⟩ (hp.map.heap (set_keep_map hx hM)), hk, fun v2 hv2 => ?_⟩
 rw [hv'] at hv2
 obtain rfl : v = v2 := by simpa using hv2
 exact hne v hv

set_option maxRecDepth 100000 in
set_option maxHeartbeats 16000000 in
theorem places1_any (w0 : World) (h : HallR) (l : LevR) (r : RowR) (n i k gn gi gk gr gh g3 gm M : Nat) (w : World) (out : List PlaceR) (N : Nat) (f : Int → Int) (s x : Int) (hp : Plc1 w0 h r n i k gn gi gk gr gh g3 gm M w out N f)
  (hh : h.In w0) (hl : h.levels[n]? = some l) (hpn : l.pn ≤ 100000) (hr : r.In w0) (hs : (Lit.int .i64 s).wf = true) (ho : out.length ≤ 900000) (hN : N ≤ 900000) :
  Calls Tryz.prog 62 #[.int .i64 s, .int .i64 x, .pointer (some ⟨gn, 0, none⟩), .pointer (some ⟨gi, 0, none⟩), .pointer (some ⟨gk, 0, none⟩), .pointer (some ⟨gr, 0, none⟩), .pointer (some ⟨gh, 0, none⟩), .pointer (some ⟨g3, 0, none⟩), .pointer (some ⟨gm, 0, none⟩)] w
   fun e w' => e = .returned (.tuple #[]) ∧ Plc1 w0 h r n i k gn gi gk gr gh g3 gm M w' (out ++ [seatPlace h l n i k r (s, x)]) (N + 1) (fun j => if j = s then (out.length : Int) else f j) ∧ KUpd (PlT M g3) w w' := by
 have HP := Lib.hid hp
 have HH := Lib.hid hh
 have HR := Lib.hid hr
 have HKR : Hid (KUpd (PlT M g3) w w) := KUpd.refl _ _
 have hvw : ∃ vw, viewS h.stage l ⟨x, r.y⟩ = vw := ⟨_, rfl⟩
 obtain ⟨vw, hvw⟩ := hvw
 have HVW := Lib.hid hvw
 have HVA : Hid (∀ wx, h.In wx → Calls Tryz.prog 63 #[.agg #[.string (bs h.name), .int .i64 h.stage.x, .int .i64 h.stage.y, .slice h.la h.ln h.lc], .int .i64 n, .agg #[.int .i64 x, .int .i64 r.y]] wx fun e w' => e = .returned (.int .i64 vw) ∧ Below wx.heap.size wx w') := fun wx hw => by
  rw [← hvw]
  exact view_any wx h n ⟨x, r.y⟩ hw l hl hpn
 clear hp hh hr hvw
 refine enter_fr (N := 51) [.int .i64 s, .int .i64 x, .pointer (some ⟨gn, 0, none⟩), .pointer (some ⟨gi, 0, none⟩), .pointer (some ⟨gk, 0, none⟩), .pointer (some ⟨gr, 0, none⟩), .pointer (some ⟨gh, 0, none⟩), .pointer (some ⟨g3, 0, none⟩), .pointer (some ⟨gm, 0, none⟩)] (Tryz.func62) rfl Tryz.ntmps62 (by rfl) (fun a hF => ?_);replace hF := hF.kp [0, 1, 2, 3, 4, 5, 6, 7, 8] rfl
 refine seq_cut (fun a' w' => ∃ gp, FrF 51 [] [(0, .int .i64 s), (5, .pointer (some ⟨gr, 0, none⟩)), (7, .pointer (some ⟨g3, 0, none⟩)), (8, .pointer (some ⟨gm, 0, none⟩)), (11, .pointer (some ⟨gp, 0, none⟩))] a' ∧ Hid (Plc1 w0 h r n i k gn gi gk gr gh g3 gm M w' out N f) ∧ Hid (w'.heap[gp]? = some (.cells #[.int .i64 0, .int .i64 n, .int .i64 i, .int .i64 k, .int .i64 s, .int .i64 x, .int .i64 r.y, .int .i64 vw, .int .i64 (-1)] 52 (0, 0))) ∧ Hid (KUpd (PlT M g3) w w') ∧ Hid (w0.heap.size ≤ gp) ∧ Hid (∀ v, w'.heap[g3]? = some (.cells #[v] 35 (0, 0)) → v.ownBlock ≠ some gp)) (fun KJ hKJ => ?_) ?_
 ·
  have HPd : Hid (Plc1 w0 h r n i k gn gi gk gr gh g3 gm M w.drew out N f) := HP.out.down (below_d (Below.refl _ _))
  have HKd : Hid (KUpd (PlT M g3) w w.drew) := KUpd.of_below (below_d (Below.refl _ _))
  have HG3 : Hid (∀ w' gp, Below w.drew.heap.size w.drew w' → w.drew.heap.size ≤ gp → ∀ v, w'.heap[g3]? = some (.cells #[v] 35 (0, 0)) → v.ownBlock ≠ some gp) := fun w' gp hb hgp v hv e => by
   obtain ⟨v0, hv0, ho0⟩ := HPd.out.out.row
   rw [hb.block g3 (lt_of_block hv0), hv0] at hv
   obtain rfl : v0 = v := by simpa using hv
   have := (ho0.lt gp e).2
   omega
  have HST : Hid (∀ w', Below w.drew.heap.size w.drew w' → Below w.drew.heap.size w.drew w' ∧ w'.cell? ⟨gn, 0, none⟩ = some (.int .i64 n) ∧ w'.cell? ⟨gi, 0, none⟩ = some (.int .i64 i) ∧ w'.cell? ⟨gk, 0, none⟩ = some (.int .i64 k) ∧ w'.cell? ⟨gr, 2, none⟩ = some (.int .i64 r.y) ∧ w'.cell? ⟨gh, 0, none⟩ = some (.string (bs h.name)) ∧ w'.cell? ⟨gh, 1, none⟩ = some (.int .i64 h.stage.x) ∧ w'.cell? ⟨gh, 2, none⟩ = some (.int .i64 h.stage.y) ∧ w'.cell? ⟨gh, 3, none⟩ = some (.slice h.la h.ln h.lc)) := fun w' hb => ⟨hb, Below.cell_of hb (boxed_cell (j := 0) HPd.out.cn rfl), Below.cell_of hb (boxed_cell (j := 0) HPd.out.ci rfl), Below.cell_of hb (boxed_cell (j := 0) HPd.out.ck rfl), Below.cell_of hb HPd.out.row.cells.2.2.1, Below.cell_of hb HPd.out.hall.cells.1, Below.cell_of hb HPd.out.hall.cells.2.1, Below.cell_of hb HPd.out.hall.cells.2.2.1, Below.cell_of hb HPd.out.hall.cells.2.2.2⟩
  have HHd : Hid (h.In w.drew) := HH.out.below HPd.out.below
  clear HP HKR
  refine region_any (by kernel_rfl) ?_;generalize hwd : w.drew = wd at *;revert hF;refine zhc (fuel := 4) (fun w' => Below wd.heap.size wd w' ∧ w'.cell? ⟨gn, 0, none⟩ = some (.int .i64 n) ∧ w'.cell? ⟨gi, 0, none⟩ = some (.int .i64 i) ∧ w'.cell? ⟨gk, 0, none⟩ = some (.int .i64 k) ∧ w'.cell? ⟨gr, 2, none⟩ = some (.int .i64 r.y) ∧ w'.cell? ⟨gh, 0, none⟩ = some (.string (bs h.name)) ∧ w'.cell? ⟨gh, 1, none⟩ = some (.int .i64 h.stage.x) ∧ w'.cell? ⟨gh, 2, none⟩ = some (.int .i64 h.stage.y) ∧ w'.cell? ⟨gh, 3, none⟩ = some (.slice h.la h.ln h.lc)) (HST.out _ (Below.refl _ _)) [3, 19, 35, 49, 65, 88, 99, 115, 131, 145, 168, 179, 200] fun a hF => ?_;refine held_two (n := 13) (m := 15) (fuel := 3) (by kernel_rfl) ?_ ?_
  ·
   clear hwd
   revert hF;refine zoc fun K hK => ?_
   refine (HVA.out wd HHd.out).mono ?_
   rintro e w1 ⟨rfl, hb1⟩
   refine hK _ _ (fun a hF => ⟨?_, ?_⟩)
   ·
    intro _
    exact HST.out _ hb1
   clear hK K
   have hx1 : (w1.alloc (.cells #[.int .i64 0, .int .i64 0, .int .i64 0, .int .i64 0, .int .i64 0, .int .i64 0, .int .i64 0, .int .i64 0, .int .i64 0] 52)).heap[w1.heap.size]? = some (.cells #[.int .i64 0, .int .i64 0, .int .i64 0, .int .i64 0, .int .i64 0, .int .i64 0, .int .i64 0, .int .i64 0, .int .i64 0] 52 (0, 0)) := World.alloc_heap_new _ _
   have hbx := hb1.trans ((Joins.below_alloc1 w1 (.cells #[.int .i64 0, .int .i64 0, .int .i64 0, .int .i64 0, .int .i64 0, .int .i64 0, .int .i64 0, .int .i64 0, .int .i64 0] 52)).mono hb1.size)
   revert hF;refine zhg (fuel := 2) (HST.out _ hb1) [232] fun a hF => ?_;refine held_one (n := 15) (fuel := 1) (by kernel_rfl) ?_;revert hF;refine qe0 fun a hF => ⟨?_, ?_⟩
   ·
    intro _
    exact HST.out _ hbx
   generalize w1.alloc (.cells #[.int .i64 0, .int .i64 0, .int .i64 0, .int .i64 0, .int .i64 0, .int .i64 0, .int .i64 0, .int .i64 0, .int .i64 0] 52) = w2 at *
   have hgp1 : wd.heap.size ≤ w1.heap.size := hb1.size
   obtain ⟨gp, hgp0⟩ : ∃ gp, gp = w1.heap.size := ⟨_, rfl⟩
   rw [← hgp0] at hF hgp1 hx1
   have hx := hx1
   have hgp := hgp1
   clear hgp0 hx1 hgp1 hb1
   have hSV := run_storeVar_row (P := Tryz.prog) w2 gp 52 52 #[.int .i64 0, .int .i64 0, .int .i64 0, .int .i64 0, .int .i64 0, .int .i64 0, .int .i64 0, .int .i64 0, .int .i64 0] #[.int .i64 0, .int .i64 n, .int .i64 i, .int .i64 k, .int .i64 s, .int .i64 x, .int .i64 r.y, .int .i64 vw, .int .i64 (-1)] hx (by kernel_rfl) rfl (by simp [Value.oneCell'])
   have hrow := setRow_heap w2 gp #[.int .i64 0, .int .i64 0, .int .i64 0, .int .i64 0, .int .i64 0, .int .i64 0, .int .i64 0, .int .i64 0, .int .i64 0] #[.int .i64 0, .int .i64 n, .int .i64 i, .int .i64 k, .int .i64 s, .int .i64 x, .int .i64 r.y, .int .i64 vw, .int .i64 (-1)] 52 (0, 0) hx
   have hbs : Below wd.heap.size wd (w2.setRow gp #[.int .i64 0, .int .i64 n, .int .i64 i, .int .i64 k, .int .i64 s, .int .i64 x, .int .i64 r.y, .int .i64 vw, .int .i64 (-1)]) := below_setRow hbx hgp #[.int .i64 0, .int .i64 n, .int .i64 i, .int .i64 k, .int .i64 s, .int .i64 x, .int .i64 r.y, .int .i64 vw, .int .i64 (-1)]
   have HFIN := Lib.hid (And.intro hrow (And.intro hbs hgp))
   clear hx hbx hrow hbs hgp
   refine held_one (n := 16) (fuel := 0) (by kernel_rfl) ?_;refine op_storev rfl rfl hF rfl rfl rfl rfl hSV ?_;clear hF;refine fun a hF => ⟨?_, ?_⟩
   ·
    intro _
    exact HST.out _ HFIN.out.2.1
   clear hSV
   refine held_end (by kernel_rfl) ?_;replace hF := hF.kp [0, 5, 7, 8, 11] rfl
   exact hKJ _ _ ⟨gp, hF, HPd.out.down HFIN.out.2.1, HFIN.out.1, HKd.out.trans (KUpd.of_below HFIN.out.2.1), Nat.le_trans HPd.out.below.size HFIN.out.2.2, HG3.out _ _ HFIN.out.2.1 HFIN.out.2.2⟩
  ·
   clear hwd
   revert hF;refine qe0 fun a hF => ⟨?_, ?_⟩
   ·
    intro _
    exact HST.out _ (Joins.below_alloc1 wd _)
   have hbx := Joins.below_alloc1 wd (.cells #[.int .i64 0, .int .i64 0, .int .i64 0, .int .i64 0, .int .i64 0, .int .i64 0, .int .i64 0, .int .i64 0, .int .i64 0] 52)
   have hx0 : (wd.alloc (.cells #[.int .i64 0, .int .i64 0, .int .i64 0, .int .i64 0, .int .i64 0, .int .i64 0, .int .i64 0, .int .i64 0, .int .i64 0] 52)).heap[wd.heap.size]? = some (.cells #[.int .i64 0, .int .i64 0, .int .i64 0, .int .i64 0, .int .i64 0, .int .i64 0, .int .i64 0, .int .i64 0, .int .i64 0] 52 (0, 0)) := World.alloc_heap_new _ _
   generalize wd.alloc (.cells #[.int .i64 0, .int .i64 0, .int .i64 0, .int .i64 0, .int .i64 0, .int .i64 0, .int .i64 0, .int .i64 0, .int .i64 0] 52) = w1 at *
   obtain ⟨gp, hgp0⟩ : ∃ gp, gp = wd.heap.size := ⟨_, rfl⟩
   have hgp : wd.heap.size ≤ gp := by omega
   rw [← hgp0] at hF hx0
   clear hgp0
   refine held_one (n := 13) (fuel := 2) (by kernel_rfl) ?_;revert hF;refine zoc fun K hK => ?_
   refine (HVA.out w1 (HHd.out.below hbx)).mono ?_
   rintro e w2 ⟨rfl, hb2⟩
   have hb := hbx.trans (hb2.mono hbx.size)
   have hx := (hb2.block gp (lt_of_block hx0)).trans hx0
   clear hbx hx0 hb2
   refine hK _ _ (fun a hF => ⟨?_, ?_⟩)
   ·
    intro _
    exact HST.out _ hb
   clear hK K
   have hSV := run_storeVar_row (P := Tryz.prog) w2 gp 52 52 #[.int .i64 0, .int .i64 0, .int .i64 0, .int .i64 0, .int .i64 0, .int .i64 0, .int .i64 0, .int .i64 0, .int .i64 0] #[.int .i64 0, .int .i64 n, .int .i64 i, .int .i64 k, .int .i64 s, .int .i64 x, .int .i64 r.y, .int .i64 vw, .int .i64 (-1)] hx (by kernel_rfl) rfl (by simp [Value.oneCell'])
   have hrow := setRow_heap w2 gp #[.int .i64 0, .int .i64 0, .int .i64 0, .int .i64 0, .int .i64 0, .int .i64 0, .int .i64 0, .int .i64 0, .int .i64 0] #[.int .i64 0, .int .i64 n, .int .i64 i, .int .i64 k, .int .i64 s, .int .i64 x, .int .i64 r.y, .int .i64 vw, .int .i64 (-1)] 52 (0, 0) hx
   have hbs : Below wd.heap.size wd (w2.setRow gp #[.int .i64 0, .int .i64 n, .int .i64 i, .int .i64 k, .int .i64 s, .int .i64 x, .int .i64 r.y, .int .i64 vw, .int .i64 (-1)]) := below_setRow hb hgp #[.int .i64 0, .int .i64 n, .int .i64 i, .int .i64 k, .int .i64 s, .int .i64 x, .int .i64 r.y, .int .i64 vw, .int .i64 (-1)]
   have HFIN := Lib.hid (And.intro hrow (And.intro hbs hgp))
   have HSB := Lib.hid (HST.out _ hb)
   clear hx hb hrow hbs hgp
   revert hF;refine zhg (fuel := 1) HSB.out [232] fun a hF => ?_;refine held_one (n := 16) (fuel := 0) (by kernel_rfl) ?_;refine op_storev rfl rfl hF rfl rfl rfl rfl hSV ?_;clear hF;refine fun a hF => ⟨?_, ?_⟩
   ·
    intro _
    exact HST.out _ HFIN.out.2.1
   clear hSV
   refine held_end (by kernel_rfl) ?_;replace hF := hF.kp [0, 5, 7, 8, 11] rfl
   exact hKJ _ _ ⟨gp, hF, HPd.out.down HFIN.out.2.1, HFIN.out.1, HKd.out.trans (KUpd.of_below HFIN.out.2.1), Nat.le_trans HPd.out.below.size HFIN.out.2.2, HG3.out _ _ HFIN.out.2.1 HFIN.out.2.2⟩
 clear HP HKR HVA hF
 rintro a w1 ⟨gp, hF, HP, HX, HK, HGP, HNE⟩
 have HSP : Hid (seatPlace h l n i k r (s, x) = ⟨kindS (markS r.marks s).kind, n, i, k, s, x, r.y, if (markS r.marks s).kind = 3 then max vw 2 else vw, -1⟩) := by
  show _ = _
  unfold seatPlace
  rw [HVW.out]
 refine seq_cut (fun a' w' => FrF 51 [] [(0, .int .i64 s), (7, .pointer (some ⟨g3, 0, none⟩)), (8, .pointer (some ⟨gm, 0, none⟩)), (11, .pointer (some ⟨gp, 0, none⟩))] a' ∧ Hid (Plc1 w0 h r n i k gn gi gk gr gh g3 gm M w' out N f) ∧ Hid (PlcIn w' gp (seatPlace h l n i k r (s, x))) ∧ Hid (KUpd (PlT M g3) w w') ∧ Hid (w0.heap.size ≤ gp) ∧ Hid (∀ v, w'.heap[g3]? = some (.cells #[v] 35 (0, 0)) → v.ownBlock ≠ some gp)) (fun KJ hKJ => ?_) ?_
 ·
  rw [HSP.out] at hKJ
  obtain ⟨q0, q1, q2, q3, q4, q5, q6, q7⟩ := HP.out.row.cells
  have hfm := run_field_mark
  refine wp_seq_k (fun K hK => ?_);revert hF;refine zrp [4, 1] [2, 3] fun a hF => ?_;revert hF;refine zos fun K hK => ?_
  refine (mark_any w1 r s (HR.out.below HP.out.below)).mono ?_
  rintro e w2 ⟨rfl, hb2⟩
  have HP2 := Lib.hid (HP.out.down hb2)
  have HX2 := Lib.hid ((hb2.block gp (lt_of_block HX.out)).trans HX.out)
  have HK2 : Hid (KUpd (PlT M g3) w w2) := HK.out.trans (KUpd.of_below hb2)
  have HNE2 : Hid (∀ v, w2.heap[g3]? = some (.cells #[v] 35 (0, 0)) → v.ownBlock ≠ some gp) := fun v hv => by
   obtain ⟨v0, hv0, _⟩ := HP.out.out.row
   rw [hb2.block g3 (lt_of_block hv0)] at hv
   exact HNE.out v hv
  clear q0 q1 q2 q3 q4 q5 q6 q7 HP HX HK HNE hb2 HSP
  generalize (markS r.marks s).kind = mk at *
  refine hK _ _ (fun a hF => ?_);clear hK K;revert hF;refine zre 3 [4] [0, 7, 8, 11, 30] fun a hF => ?_;refine hK _ _ ?_;clear hK
  clear hfm
  refine wp_block ?_
  by_cases h3 : mk = 3
  ·
   have b3 : (mk == 3) = true := by simp [h3]
   have HE : Hid (((⟨kindS mk, n, i, k, s, x, r.y, if mk = 3 then max vw 2 else vw, -1⟩ : PlaceR)) = ⟨0, n, i, k, s, x, r.y, max vw 2, -1⟩) := by
    subst h3
    rfl
   rw [HE.out] at hKJ
   clear h3 HE
   revert hF;refine zrs [4, 2] [0, 7, 8, 11, 30, 31] fun a hF => ?_
   refine cond_yes hF rfl ?_
   have c7 : w2.cell? ⟨gp, 7, none⟩ = some (.int .i64 vw) := boxed_cell (j := 7) HX2.out rfl
   have f7 := free_var (o := 7) HX2.out
   revert hF;refine zrp [4, 4, 4, 4] [4] fun a hF => ?_;refine seq_one ?_;revert hF;refine qu2 fun a hF => ?_;refine seq_end ?_;replace hF := hF.kp [0, 7, 8, 11] rfl
   obtain ⟨hp3, hk3, hn3⟩ := HP2.out.own (o := 7) (u := .int .i64 (max vw 2)) HX2.out HGP.out HNE2.out
   exact hKJ _ _ ⟨hF, hp3, set_in HX2.out, HK2.out.trans hk3, HGP, hn3⟩
  have b3 : (mk == 3) = false := by simp [h3]
  rw [if_neg h3] at hKJ
  revert hF;refine zrs [4, 2] [0, 7, 8, 11, 30, 31] fun a hF => ?_
  refine cond_no hF rfl ?_
  clear b3
  by_cases h2 : mk = 2
  ·
   have b2 : (mk == 2) = true := by simp [h2]
   have HE : Hid (kindS mk = 1) := by
    subst h2
    rfl
   rw [HE.out] at hKJ
   clear h2 h3 HE
   revert hF;refine zrs [4, 2] [0, 7, 8, 11, 30, 37] fun a hF => ?_
   refine cond_yes hF rfl ?_
   have c0 : w2.cell? ⟨gp, 0, none⟩ = some (.int .i64 0) := boxed_cell (j := 0) HX2.out rfl
   have f0 := free_var (o := 0) HX2.out
   revert hF;refine zrp [4] [1] fun a hF => ?_;refine seq_one ?_;revert hF;refine qu1 fun a hF => ?_;refine seq_end ?_;replace hF := hF.kp [0, 7, 8, 11] rfl
   obtain ⟨hp3, hk3, hn3⟩ := HP2.out.own (o := 0) (u := .int .i64 1) HX2.out HGP.out HNE2.out
   exact hKJ _ _ ⟨hF, hp3, set_in HX2.out, HK2.out.trans hk3, HGP, hn3⟩
  have b2 : (mk == 2) = false := by simp [h2]
  revert hF;refine zrs [4, 2] [0, 7, 8, 11, 30, 37] fun a hF => ?_
  refine cond_no hF rfl ?_
  clear b2
  by_cases h4 : mk = 4
  ·
   have b4 : (mk == 4) = true := by simp [h4]
   have HE : Hid (kindS mk = 2) := by
    subst h4
    rfl
   rw [HE.out] at hKJ
   clear h2 h3 h4 HE
   revert hF;refine zrs [4, 2] [0, 7, 8, 11, 40] fun a hF => ?_
   refine cond_yes hF rfl ?_
   have c0 : w2.cell? ⟨gp, 0, none⟩ = some (.int .i64 0) := boxed_cell (j := 0) HX2.out rfl
   have f0 := free_var (o := 0) HX2.out
   revert hF;refine zrp [4] [1] fun a hF => ?_;refine seq_one ?_;revert hF;refine qu1 fun a hF => ?_;refine seq_end ?_;replace hF := hF.kp [0, 7, 8, 11] rfl
   obtain ⟨hp3, hk3, hn3⟩ := HP2.out.own (o := 0) (u := .int .i64 2) HX2.out HGP.out HNE2.out
   exact hKJ _ _ ⟨hF, hp3, set_in HX2.out, HK2.out.trans hk3, HGP, hn3⟩
  have b4 : (mk == 4) = false := by simp [h4]
  have HE : Hid (kindS mk = 0) := by
   show kindS mk = 0
   unfold kindS
   rw [if_neg h2, if_neg h4]
  rw [HE.out] at hKJ
  clear h2 h3 h4 HE
  revert hF;refine zrs [4, 2] [0, 7, 8, 11, 40] fun a hF => ?_
  refine cond_no hF rfl ?_
  refine wp_skip ?_
  exact hKJ _ _ ⟨hF.sub ⟨rfl, rfl, rfl, rfl, trivial⟩, HP2, HX2, HK2, HGP, HNE2⟩
 clear hF HP HX HK HNE HSP HVW HGP
 rintro a w2 ⟨hF, HP, HX, HK, HGP, HNE⟩
 generalize seatPlace h l n i k r (s, x) = pl at *
 -- at[s] = len(out)
 obtain ⟨ov, hov, horow⟩ := HP.out.out.row
 obtain ⟨la, lc, rfl, _⟩ := OwnRecs.of_row horow
 have cm : w2.cell? ⟨gm, 0, none⟩ = some (.map (some M)) := boxed_cell (j := 0) HP.out.mv rfl
 have co : w2.cell? ⟨g3, 0, none⟩ = some (.slice la out.length lc) := boxed_cell (j := 0) hov rfl
 obtain ⟨w3, hMU, hm3, hg3⟩ := HP.out.map.set (k := s) hs (by omega) (out.length : Int)
 obtain ⟨es, cc, hMb⟩ := HP.out.map.blk
 have hkM : KUpd (PlT M g3) w2 w3 := KUpd.of_grown hg3 fun b o e _ => Or.inl (by simpa using e.symm)
 have hbl3 : Below w0.heap.size w0 w3 := HP.out.below.grown hg3 HP.out.below.size (fun b e => by
  have : b = M := by simpa using e.symm
  rw [this]; exact HP.out.bm)
 have hcell3 : ∀ {b : Nat} {A : Array Value} {T : TypeId} {x : Nat × Nat}, w2.heap[b]? = some (.cells A T x) → w3.heap[b]? = some (.cells A T x) := fun {b A T x} hh => (hg3.block b (lt_of_block hh) (fun e => by
  have e2 : b = M := by simpa using e
  rw [e2, hMb] at hh
  cases hh)).trans hh
 have hrow3 := row_of_heap horow fun b hb => by
  obtain ⟨cur, hh⟩ := own_type horow hb
  exact (hcell3 hh).trans hh.symm
 have HP3 := Lib.hid (HP.out.upd hbl3 hkM ⟨HP.out.out.base, _, hcell3 hov, hrow3⟩ hm3)
 have HOV3 := Lib.hid (hcell3 hov)
 have HROW3 := Lib.hid hrow3
 have HX3 : Hid (PlcIn w3 gp pl) := hcell3 HX.out
 have HK3 : Hid (KUpd (PlT M g3) w w3) := HK.out.trans hkM
 have HNEQ : Hid ((.slice la out.length lc : Value).ownBlock ≠ some gp) := HNE.out _ hov
 clear hm3 hg3 hMb hkM hbl3 hcell3 hrow3 hov horow HP HX HK HNE
 refine wp_seq_k (fun K hK => ?_);revert hF;refine zrp [4, 1, 4, 4] [4] fun a hF => ?_;refine seq_one ?_;revert hF;refine qu3 fun a hF => ?_;refine seq_end ?_;replace hF := hF.kp [7, 11] rfl
 clear hMU cm co
 refine hK _ _ ?_;clear hK
 have co : w3.cell? ⟨g3, 0, none⟩ = some (.slice la out.length lc) := boxed_cell (j := 0) HOV3.out rfl
 obtain ⟨p0, p1, p2, p3, p4, p5, p6, p7, p8⟩ := HX3.out.cells
 revert hF;refine zrp [4, 4] [2, 3, 4] fun a hF => ?_;refine seq_one ?_;revert hF;refine qe1 fun a hF => ?_
 have HNR := Lib.hid (recs_alloc PlaceE w3 52 [pl] #[.int .i64 pl.kind, .int .i64 pl.level, .int .i64 pl.block, .int .i64 pl.row, .int .i64 pl.seat, .int .i64 pl.x, .int .i64 pl.y, .int .i64 pl.view, .int .i64 pl.wth] rfl)
 have HBa := Lib.hid (Joins.below_alloc1 w3 (.cells #[.int .i64 pl.kind, .int .i64 pl.level, .int .i64 pl.block, .int .i64 pl.row, .int .i64 pl.seat, .int .i64 pl.x, .int .i64 pl.y, .int .i64 pl.view, .int .i64 pl.wth] 52))
 have HP4 := Lib.hid (HP3.out.down HBa.out)
 have HOV4 := Lib.hid ((HBa.out.block g3 (lt_of_block HOV3.out)).trans HOV3.out)
 have HROW4 := Lib.hid (row_of_heap HROW3.out fun b hb => HBa.out.block b (HROW3.out.lt b hb).2)
 have HK4 : Hid (KUpd (PlT M g3) w (w3.alloc (.cells #[.int .i64 pl.kind, .int .i64 pl.level, .int .i64 pl.block, .int .i64 pl.row, .int .i64 pl.seat, .int .i64 pl.x, .int .i64 pl.y, .int .i64 pl.view, .int .i64 pl.wth] 52))) := HK3.out.trans (KUpd.of_below HBa.out)
 clear p0 p1 p2 p3 p4 p5 p6 p7 p8 co HP3 HX3 HK3 HBa
 generalize w3.alloc (.cells #[.int .i64 pl.kind, .int .i64 pl.level, .int .i64 pl.block, .int .i64 pl.row, .int .i64 pl.seat, .int .i64 pl.x, .int .i64 pl.y, .int .i64 pl.view, .int .i64 pl.wth] 52) = w4 at *
 obtain ⟨v', w5, hAPP, ho, hg, _⟩ := append_recs (E := PlaceE) 35 52 35 Tryz.underlying35 info_place rfl (by decide) HROW4.out (u := .slice (some ⟨w3.heap.size, 0, none⟩) 1 1) ⟨_, _, rfl, HNR.out, fun h => by cases h⟩ (by simp; omega) HP4.out.below.size
 obtain ⟨la4, lc4, rfl, _⟩ := OwnRecs.of_row ho
 have hkeep : ∀ {b : Nat} {A : Array Value} {T : TypeId} {x : Nat × Nat}, w4.heap[b]? = some (.cells A T x) → T ≠ 52 → w5.heap[b]? = some (.cells A T x) := fun hb hT => (hg.block _ (lt_of_block hb) (fun e => by
  obtain ⟨cur, hh⟩ := own_type HROW4.out e.symm
  exact type_ne hb hh hT rfl)).trans hb
 have hR5 := hkeep HOV4.out (by decide)
 obtain ⟨es, cc, hMb⟩ := HP4.out.map.blk
 have hM5 : w5.heap[M]? = w4.heap[M]? := hg.block M (lt_of_block hMb) (fun e => row_ne_map HROW4.out hMb e.symm)
 have c6 : w5.cell? ⟨g3, 0, none⟩ = some (.slice la out.length lc) := boxed_cell (j := 0) hR5 rfl
 have f6 := free_var (o := 0) hR5
 have hk5 : KUpd (PlT M g3) w4 w5 := KUpd.of_grown hg fun b o e hb => by
  obtain ⟨cur, hh⟩ := own_type HROW4.out e
  rw [hb] at hh
  cases hh
  exact Or.inr (Or.inr ⟨_, _, rfl⟩)
 have hb5 : Below w0.heap.size w0 w5 := HP4.out.below.grown hg HP4.out.below.size (fun k hk => (HROW4.out.lt k hk).1)
 have hk6 : KUpd (PlT M g3) w4 (w5.setCell ⟨g3, 0, none⟩ (.slice la4 (out.length + [pl].length) lc4)) := hk5.trans (KUpd.of_set hR5 (Or.inr (Or.inl rfl)))
 have hOUT : OutAt w0 (w5.setCell ⟨g3, 0, none⟩ (.slice la4 (out.length + [pl].length) lc4)) g3 (out ++ [pl]) := ⟨HP4.out.out.base, _, set_var hR5, by
  rw [List.length_append]
  refine row_of_heap ho fun b hb => ?_
  obtain ⟨cur, hh⟩ := own_type ho hb
  rw [set_keep hR5 hh (by decide), hh]⟩
 have HFIN := Lib.hid (HP4.out.upd (hb5.trans (below_set HP4.out.out.base)) hk6 hOUT (HP4.out.map.heap (by rw [set_keep_map hR5 (hM5.trans hMb), hM5])))
 have HKF : Hid (KUpd (PlT M g3) w (w5.setCell ⟨g3, 0, none⟩ (.slice la4 (out.length + [pl].length) lc4))) := HK4.out.trans hk6
 clear ho hg hkeep hR5 hMb hM5 hk5 hb5 hk6 hOUT HP4 HOV4 HROW4 HK4 HNR HOV3 HROW3
 refine seq_one ?_;refine op_append rfl rfl rfl rfl rfl hF rfl rfl rfl hAPP (fun a hF => ?_);clear hAPP;refine seq_one ?_;revert hF;refine qu2 fun a hF => ?_
 clear c6 f6
 refine seq_end ?_;replace hF := hF.kp [] rfl;(try simp only [then_exit, block_exit, block_norm, goto_norm, ↓reduceIte, Nat.reduceEqDiff]);refine end_fr (fn := Tryz.f62) (rs := []) rfl [] hF trivial ?_
 exact ⟨rfl, HFIN.out, HKF.out⟩
end Go.Proofs.YtmcdhggnpfhlmaaGreat
