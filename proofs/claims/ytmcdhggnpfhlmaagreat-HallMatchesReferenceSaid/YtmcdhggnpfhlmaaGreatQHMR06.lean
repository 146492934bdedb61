/- hall: appends of records; the checker's faults; hall: the checker: add; hall: slices.Grow and slices.Concat of rectangles; hall: structs in blocks of their own; the checker's closures. -/
import Derived.Test.YtmcdhggnpfhlmaaGreatQHMR05
import Derived.Lib.AppendZeros
import Derived.Laws.OwnMore
import Derived.LoopTactic
import Derived.Deep.RegionHeld3

set_option linter.unusedVariables false
set_option linter.unusedSimpArgs false
namespace Go.Proofs.YtmcdhggnpfhlmaaGreat
open Go.RowKit Go.IntWalk
set_option linter.unusedSimpArgs false
set_option linter.unusedVariables false

/-- A slice value that reads as records. -/
def Rcs {α : Type} {k : Nat} (E : Enc α k) (w : World) (v : Value) (l : List α) : Prop := ∃ la c, v = .slice la l.length c ∧ Recs E w la l.length l ∧ (la = none → c = 0)
theorem Rcs.below {α : Type} {k : Nat} {E : Enc α k} {w w' : World} {v : Value} {l : List α} (h : Rcs E w v l) (hb : Below w.heap.size w w') : Rcs E w' v l :=
 let ⟨la, c, e, r, hc⟩ := h; ⟨la, c, e, r.below hb, hc⟩
theorem Rcs.of_own {α : Type} {k : Nat} {E : Enc α k} {w : World} {B n : Nat} {T : TypeId} {v : Value} {l : List α} (h : w.ownsRow B T k v n (flat E l)) : Rcs E w v l := by
 have hl : l.length = n := by
  have := h.1
  rw [flat_len] at this
  exact Nat.eq_of_mul_eq_mul_right E.pos this
 subst hl
 obtain ⟨la, c, rfl, ho⟩ := OwnRecs.of_row h
 refine ⟨la, c, rfl, ho.recs, fun hn => ?_⟩
 subst hn
 rcases h.2 with ⟨h1, _⟩ | ⟨g, cap, cur, h1, _⟩
 ·
  simp only [Value.slice.injEq] at h1; exact h1.2.2
 ·
  cases h1

theorem info_parts {x : Option TypeInfo} {z : Option Value} {s b : Nat} (h : x.map (fun i => (i.zero, i.size, i.bytes)) = some (z, s, b)) : ∃ i, x = some i ∧ i.zero = z ∧ i.size = s ∧ i.bytes = b := by
 obtain ⟨i, hi, e⟩ := Option.map_eq_some_iff.1 h
 simp only [Prod.mk.injEq] at e
 exact ⟨i, hi, e.1, e.2.1, e.2.2⟩

/-- An append of records to a row of the call's own. -/
theorem append_recs {α : Type} {k : Nat} {E : Enc α k} {w : World} {base n : Nat} {v u : Value} {xs l : List α} (t e ty : TypeId) {z : Value} {bytes : Nat} (ht : Tryz.prog.underlying t = some (.slice e)) (hi : (Tryz.prog.info? e).map (fun i => (i.zero, i.size, i.bytes)) = some (some z, k, bytes)) (hzs : z.cells.size = k) (hby : bytes ≤ 1000)
  (hown : w.ownsRow base e k v n (flat E xs)) (hu : Rcs E w u l) (h63 : n + l.length ≤ 1000000) (hbase : base ≤ w.heap.size) :
  ∃ v' w', (Builtin.append_ #[t, t] ty #[v, u]).run Tryz.prog w = .ok v' w' ∧ w'.ownsRow base e k v' (n + l.length) (flat E (xs ++ l)) ∧ w.grownBy w' v.ownBlock ∧ (v'.ownBlock = v.ownBlock ∨ v'.ownBlock = some w.heap.size) := by
 obtain ⟨i, hi, hz, hs, hb⟩ := info_parts hi
 obtain ⟨la, c, rfl, hr, hc⟩ := hu
 cases la with
 | none =>
  have hl : l.length = 0 := by
   rcases Nat.eq_zero_or_pos l.length with h | h
   ·
    exact h
   ·
    obtain ⟨b, o, e, _⟩ := hr.2 0 h; cases e
  obtain rfl := List.length_eq_zero_iff.mp hl
  rw [hc rfl, List.append_nil]
  exact ⟨v, w, run_append_owned_none w base _ _ _ i k ht hi v n _ hown, hown, ⟨rfl, rfl, rfl, Nat.le_refl _, fun _ _ _ => rfl⟩, Or.inl rfl⟩
 | some ad =>
  obtain ⟨v', w', h1, h2, h3, _, h5⟩ := run_append_own_at (P := Tryz.prog) (w := w) base t ty e i z k bytes ht hi hz hs hb hzs E.pos v n (flat E xs) hown ad l.length c (flat E l) (by rw [flat_len]) (flat_cells hr) flat_one (by unfold maxLen; omega) (by
   have : (n + l.length) * bytes ≤ 1000000 * 1000 := Nat.mul_le_mul h63 hby
   omega) hbase
  rw [← flat_append] at h2
  exact ⟨v', w', h1, h2, h3, h5⟩

theorem info_fault : (Tryz.prog.info? 55).map (fun i => (i.zero, i.size, i.bytes)) = some (some (.agg #[.int .i64 0, .int .i64 0, .int .i64 0]), 3, 24) := by kernel_rfl
theorem info_int : (Tryz.prog.info? 3).map (fun i => (i.zero, i.size, i.bytes)) = some (some (.int .i64 0), 1, 8) := by kernel_rfl
theorem info_row : (Tryz.prog.info? 49).map (fun i => (i.zero, i.size, i.bytes)) = some (some (.agg #[.string (bs []), .int .i64 0, .int .i64 0, .int .i64 0, .int .i64 0, .int .i64 0, .slice none 0 0, .int .i64 0]), 8, 88) := by kernel_rfl
theorem info_place : (Tryz.prog.info? 52).map (fun i => (i.zero, i.size, i.bytes)) = some (some (.agg #[.int .i64 0, .int .i64 0, .int .i64 0, .int .i64 0, .int .i64 0, .int .i64 0, .int .i64 0, .int .i64 0, .int .i64 0]), 9, 72) := by kernel_rfl

/-- w' is w but for blocks of some types. -/
structure TUpd (S : TypeId → Prop) (w w' : World) : Prop where
 os : w'.os = w.os
 tape : w'.tape = w.tape
 output : w'.output = w.output
 size : w.heap.size ≤ w'.heap.size
 block : ∀ (b : Nat) (o : Obj), w.heap[b]? = some o → (∀ arr T x, o = .cells arr T x → ¬ S T) → w'.heap[b]? = some o
theorem TUpd.of_below {S : TypeId → Prop} {w w' : World} (h : Below w.heap.size w w') : TUpd S w w' := ⟨h.os, h.tape, h.output, h.size, fun b o hb _ => (h.block b (lt_of_block hb)).trans hb⟩
theorem TUpd.refl (S : TypeId → Prop) (w : World) : TUpd S w w := ⟨rfl, rfl, rfl, Nat.le_refl _, fun _ _ h _ => h⟩
theorem TUpd.trans {S : TypeId → Prop} {a b c : World} (h : TUpd S a b) (k : TUpd S b c) : TUpd S a c :=
 ⟨k.os.trans h.os, k.tape.trans h.tape, k.output.trans h.output, Nat.le_trans h.size k.size, fun i o hi hS => k.block i o (h.block i o hi hS) hS⟩
theorem TUpd.wide {S T : TypeId → Prop} {a b : World} (h : TUpd S a b) (hs : ∀ i, S i → T i) : TUpd T a b :=
 ⟨h.os, h.tape, h.output, h.size, fun i o hi hT => h.block i o hi (fun arr U x e hU => hT arr U x e (hs U hU))⟩
theorem TUpd.keep {S : TypeId → Prop} {w w' : World} (h : TUpd S w w') {b : Nat} {arr : Array Value} {T : TypeId} {x : Nat × Nat} (hb : w.heap[b]? = some (.cells arr T x)) (hT : ¬ S T) : w'.heap[b]? = some (.cells arr T x) :=
 h.block b _ hb fun _ _ _ e hS => by cases e; exact hT hS
end Go.Proofs.YtmcdhggnpfhlmaaGreat

namespace Go.Proofs.YtmcdhggnpfhlmaaGreat
open Go.RowKit Go.IntWalk
set_option linter.unusedSimpArgs false
set_option linter.unusedVariables false

/-- The types of the blocks that a checker's functions change. -/
def ChkT (T : TypeId) : Prop := T = 55 ∨ T = 64

/-- A checker in memory, with its faults. -/
structure Chk (w0 : World) (h : HallR) (g : Nat) (w : World) (L : List FaultR) : Prop where
 below : Below w0.heap.size w0 w
 base : w0.heap.size ≤ g
 row : ∃ v, w.heap[g]? = some (.cells #[.string (bs h.name), .int .i64 h.stage.x, .int .i64 h.stage.y, .slice h.la h.ln h.lc, v] 64 (0, 0)) ∧ w.ownsRow w0.heap.size 55 3 v L.length (flat FaultE L)

theorem row_of_heap {w w' : World} {B k n : Nat} {T : TypeId} {v : Value} {xs : List Value} (h : w.ownsRow B T k v n xs) (e : ∀ r, v.ownBlock = some r → w'.heap[r]? = w.heap[r]?) : w'.ownsRow B T k v n xs := by
 refine ⟨h.1, ?_⟩
 rcases h.2 with h0 | ⟨g, cap, cur, rfl, hb, hh, r⟩
 ·
  exact Or.inl h0
 ·
  exact Or.inr ⟨g, cap, cur, rfl, hb, (e g rfl).trans hh, r⟩

theorem own_type {w : World} {B k n : Nat} {T : TypeId} {v : Value} {xs : List Value} {r : Nat} (h : w.ownsRow B T k v n xs) (hr : v.ownBlock = some r) : ∃ cur : Array Value, w.heap[r]? = some (.cells cur T (0, 0)) := by
 rcases h.2 with ⟨rfl, _⟩ | ⟨g, cap, cur, rfl, _, hh, _⟩
 ·
  cases hr
 ·
  cases hr; exact ⟨cur, hh⟩

/-- What leaves all else alone keeps a checker. -/
theorem Chk.keep {w0 w w' : World} {h : HallR} {g : Nat} {L : List FaultR} {S : TypeId → Prop} (hc : Chk w0 h g w L) (hb : Below w0.heap.size w0 w') (hu : TUpd S w w') (h1 : ¬ S 55) (h2 : ¬ S 64) : Chk w0 h g w' L := by
 obtain ⟨v, hg, ho⟩ := hc.row
 refine ⟨hb, hc.base, v, hu.keep hg h2, row_of_heap ho fun r hr => ?_⟩
 obtain ⟨cur, hh⟩ := own_type ho hr
 rw [hh]
 exact hu.keep hh h1
theorem Chk.down {w0 w w' : World} {h : HallR} {g : Nat} {L : List FaultR} (hc : Chk w0 h g w L) (hb : Below w.heap.size w w') : Chk w0 h g w' L :=
 hc.keep (S := fun _ => False) (hc.below.trans (hb.mono hc.below.size)) (TUpd.of_below hb) (fun h => h) (fun h => h)

theorem TUpd.of_grown {S : TypeId → Prop} {w w' : World} {r : Option Nat} (h : w.grownBy w' r) (hr : ∀ b, r = some b → ∃ arr T x, w.heap[b]? = some (.cells arr T x) ∧ S T) : TUpd S w w' :=
 ⟨h.os, h.tape, h.output, h.size, fun b o hb hS => by
  by_cases e : some b = r
  ·
   obtain ⟨arr, T, x, h1, h2⟩ := hr b e.symm
   rw [hb] at h1
   cases h1
   exact absurd h2 (hS _ _ _ rfl)
  ·
   exact (h.block b (lt_of_block hb) e).trans hb⟩

theorem TUpd.of_set {S : TypeId → Prop} {w : World} {g o : Nat} {v : Value} {arr : Array Value} {T : TypeId} {x : Nat × Nat} (h : w.heap[g]? = some (.cells arr T x)) (hS : S T) : TUpd S w (w.setCell ⟨g, o, none⟩ v) :=
 ⟨rfl, rfl, rfl, by simp [World.setCell], fun b ob hb hT => by
  by_cases e : g = b
  ·
   subst e
   rw [hb] at h
   cases h
   exact absurd hS (hT _ _ _ rfl)
  ·
   rw [Below.heap_setCell _ _ _ _ (by simp; omega)]
   exact hb⟩

theorem set_cell4 {w : World} {g : Nat} {T : TypeId} {a b c d u v : Value} {x : Nat × Nat} (h : w.heap[g]? = some (.cells #[a, b, c, d, u] T x)) : (w.setCell ⟨g, 4, none⟩ v).heap[g]? = some (.cells #[a, b, c, d, v] T x) := by
 simp [World.setCell, Array.getElem?_modify, h]
theorem below_set {w : World} {B g o : Nat} {v : Value} (h : B ≤ g) : Below B w (w.setCell ⟨g, o, none⟩ v) :=
 ⟨rfl, rfl, rfl, by simp [World.setCell], fun b hb => Below.heap_setCell _ _ _ _ (by simp; omega)⟩

set_option maxRecDepth 100000 in
set_option maxHeartbeats 8000000 in
theorem add_any (w0 : World) (h : HallR) (g : Nat) (w : World) (L : List FaultR) (e at' other : Int) (hc : Chk w0 h g w L) (hL : L.length ≤ 900000) :
  Calls Tryz.prog 21 #[.pointer (some ⟨g, 0, none⟩), .int .i64 e, .int .i64 at', .int .i64 other] w fun en w' => en = .returned (.tuple #[]) ∧ Chk w0 h g w' (L ++ [⟨e, at', other⟩]) ∧ TUpd ChkT w w' := by
 obtain ⟨hbl, hbase, v, hg, ho⟩ := hc
 have HBL := Lib.hid hbl
 have HG := Lib.hid hg
 have HO := Lib.hid ho
 have c4 : w.cell? ⟨g, 4, none⟩ = some v := boxed_cell (j := 4) hg rfl
 obtain ⟨la, lc, rfl, _⟩ := OwnRecs.of_row ho
 clear hbl hg ho
 refine enter_fr (N := 21) [.pointer (some ⟨g, 0, none⟩), .int .i64 e, .int .i64 at', .int .i64 other] (Tryz.func21) rfl Tryz.ntmps21 (by rfl) (fun a hF => ?_);replace hF := hF.kp [0, 1, 2, 3] rfl;revert hF;refine zrp [1, 1, 4, 4, 4, 1, 1, 1, 6] [9, 10, 11, 12, 13] fun a hF => ?_;refine seq_one ?_;revert hF;refine qe1 fun a hF => ?_
 have HA := Lib.hid (Joins.below_alloc1 w (.cells #[.int .i64 e, .int .i64 at', .int .i64 other] 55))
 have HNR := Lib.hid (recs_alloc FaultE w 55 [⟨e, at', other⟩] #[.int .i64 e, .int .i64 at', .int .i64 other] rfl)
 generalize w.alloc (.cells #[.int .i64 e, .int .i64 at', .int .i64 other] 55) = w1 at *
 have hgl : g < w1.heap.size := Nat.lt_of_lt_of_le (lt_of_block HG.out) HA.out.size
 have hg1 := (HA.out.block g (lt_of_block HG.out)).trans HG.out
 have ho1 := row_of_heap HO.out fun r hr => HA.out.block r (HO.out.lt r hr).2
 obtain ⟨v', w2, hAPP, ho2, hgr, hob⟩ := append_recs (E := FaultE) 36 55 36 Tryz.underlying36 info_fault rfl (by decide) ho1 (u := .slice (some ⟨w.heap.size, 0, none⟩) 1 1) ⟨_, _, rfl, HNR.out, fun h => by cases h⟩ (by simp; omega) (Nat.le_trans HBL.out.size HA.out.size)
 have hne : some g ≠ (Value.slice la L.length lc).ownBlock := fun e => by
  obtain ⟨cur, hh⟩ := own_type ho1 e.symm
  exact type_ne hg1 hh (by decide) rfl
 have hg2 := (hgr.block g hgl hne).trans hg1
 have HG2 := Lib.hid hg2
 have HO2 := Lib.hid ho2
 have HT2 : Hid (TUpd ChkT w w2) := (TUpd.of_below HA.out).trans (TUpd.of_grown hgr fun b hb => by
  obtain ⟨cur, hh⟩ := own_type ho1 hb
  exact ⟨_, _, _, hh, Or.inl rfl⟩)
 have HB2 : Hid (Below w0.heap.size w0 w2) := (HBL.out.trans (HA.out.mono HBL.out.size)).grown hgr (Nat.le_trans HBL.out.size HA.out.size) (fun k hk => (HO.out.lt k hk).1)
 have d4 : w2.cell? ⟨g, 4, none⟩ = some (.slice la L.length lc) := boxed_cell (j := 4) hg2 rfl
 have d5 := free_var (o := 4) hg2
 obtain ⟨la', lc', rfl, _⟩ := OwnRecs.of_row ho2
 clear hgl hg1 ho1 ho2 hgr hob hne hg2 c4 HG HO HBL HNR HA
 refine seq_one ?_;refine op_append rfl rfl rfl rfl rfl hF rfl rfl rfl hAPP (fun a hF => ?_);clear hAPP;revert hF;refine zrc 11 [4, 4] [13] fun a hF => ?_;refine seq_one ?_;revert hF;refine qu2 fun a hF => ?_;(try simp only [then_exit, block_exit, block_norm, goto_norm, ↓reduceIte, Nat.reduceEqDiff]);refine end_fr (fn := Tryz.f21) (rs := []) rfl [] hF trivial ?_
 refine ⟨rfl, ⟨?_, hbase, _, set_cell4 HG2.out, ?_⟩, HT2.out.trans (TUpd.of_set HG2.out (Or.inr rfl))⟩
 ·
  exact HB2.out.trans (below_set (by omega))
 ·
  rw [show (L ++ [(⟨e, at', other⟩ : FaultR)]).length = L.length + 1 from by simp]
  refine row_of_heap HO2.out fun r hr => ?_
  obtain ⟨cur, hh⟩ := own_type HO2.out hr
  exact Below.heap_setCell _ _ _ _ (fun e => type_ne HG2.out hh (by decide) (by simpa using e.symm))
end Go.Proofs.YtmcdhggnpfhlmaaGreat

namespace Go.Proofs.YtmcdhggnpfhlmaaGreat
open Go.RowKit Go.IntWalk
set_option linter.unusedSimpArgs false
set_option linter.unusedVariables false

theorem info_box : (Tryz.prog.info? 59).map (fun i => (i.zero, i.size, i.bytes)) = some (some (.agg #[.int .i64 0, .int .i64 0, .int .i64 0, .int .i64 0]), 4, 32) := by kernel_rfl
theorem box_info : ∃ i, Tryz.prog.info? 59 = some i ∧ i.zero = some (.agg #[.int .i64 0, .int .i64 0, .int .i64 0, .int .i64 0]) ∧ i.size = 4 ∧ i.bytes = 32 := info_parts info_box

theorem wpList_append_box {w : World} {ops : Array Oper} {rest : List Oper} {o : Oper} {a : Act} {Q : Exit → Act → World → Prop} (hgd : o.guard = none) (s x : Operand) (ho : o.op = .call { callee := .builtin .append, args := #[s, x], argTypes := #[29, 29] })
  {base n : Nat} {v u : Value} {xs l : List BoxR} (hs : a.eval s = v) (hx : a.eval x = u) (hown : w.ownsRow base 59 4 v n (flat BoxE xs)) (hu : Rcs BoxE w u l) (h63 : n + l.length ≤ 1000000) (hbase : base ≤ w.heap.size)
  (h : ∀ v' w', w'.ownsRow base 59 4 v' (n + l.length) (flat BoxE (xs ++ l)) → w.grownBy w' v.ownBlock → (v'.ownBlock = v.ownBlock ∨ v'.ownBlock = some w.heap.size) → wpList Tryz.prog ops Q rest (a.put o.dst v') w') : wpList Tryz.prog ops Q (o :: rest) a w := by
 obtain ⟨v', w', hr, h1, h2, h3⟩ := append_recs 29 59 o.type Tryz.underlying29 info_box rfl (by decide) hown hu h63 hbase
 exact Lib.wpList_append_run w hgd s x _ _ ho v u hs hx v' w' hr (h v' w' h1 h2 h3)

set_option maxRecDepth 10000 in
theorem grow_box (n : Nat) (w : World) (hn : n ≤ 1000000) : Calls Tryz.prog 73 #[.slice none 0 0, .int .i64 n] w fun e w' => ∃ v, e = .returned v ∧ w'.ownsRow w.heap.size 59 4 v 0 [] ∧ Below w.heap.size w w' := by
 obtain ⟨i, hi, hz, hs, hb⟩ := box_info
 by_cases h0 : n = 0
 ·
  subst h0
  go_enter Tryz.func73, Tryz.ntmps73
  go_wp2_with fail
  go_ret
  exact ⟨_, rfl, ⟨rfl, Or.inl ⟨rfl, rfl⟩⟩, Below.refl _ _⟩
 ·
  have hrun := fun ty => Lib.run_append_nil_zeros (P := Tryz.prog) w 29 3 ty 59 i _ .i64 .i64 Tryz.underlying29 Tryz.underlying3 hi hz n (by omega) (by omega) (by omega) (by rw [hb]; omega)
  have HG1 : Hid (n ≤ grownCap w n 0 59) := grownCap_ge _ _ _ _
  have HG2 : Hid (grownCap w n 0 59 ≤ maxLen) := grownCap_le_maxLen _ _ _ _ (by unfold maxLen; omega)
  have HR := Lib.hid hrun
  obtain ⟨m, hm⟩ : ∃ m, grownCap w n 0 59 = m := ⟨_, rfl⟩
  rw [hm] at HG1 HG2 HR
  clear hrun hm hi hz hs hb
  go_enter Tryz.func73, Tryz.ntmps73
  go_wp2_with (at_builtin; refine Lib.wpList_append_run _ rfl (.tmp 20) (.tmp 21) 29 3 rfl _ _ rfl rfl _ _ (HR.out _) ?_)
  go_ret
  refine ⟨_, rfl, ⟨rfl, Or.inr ⟨w.heap.size, m, _, rfl, Nat.le_refl _, World.alloc_heap_new w.drew _, Nat.zero_le _, HG2.out, ?_, rfl⟩⟩, (Below.refl _ _).drew.alloc (Nat.le_refl _) _⟩
  have := HG1.out
  simp [Builtin.zeroCells]
  omega

/-- Some logs. -/
def LogsAt (w : World) (ra : Option Addr) (n : Nat) (Ls : List (List BoxR)) : Prop := Ls.length = n ∧ ∀ i, i < n → ∃ b o u, ra = some ⟨b, o, none⟩ ∧ w.cell? ⟨b, o + i, none⟩ = some u ∧ Rcs BoxE w u (Ls.getD i [])
theorem LogsAt.below {w w' : World} {ra : Option Addr} {n : Nat} {Ls : List (List BoxR)} (h : LogsAt w ra n Ls) (hb : Below w.heap.size w w') : LogsAt w' ra n Ls :=
 ⟨h.1, fun i hi => let ⟨b, o, u, e, c, s⟩ := h.2 i hi; ⟨b, o, u, e, Below.cell_of hb c, s.below hb⟩⟩

def sumL (Ls : List (List BoxR)) : Nat := Ls.flatten.length

theorem flat_take {Ls : List (List BoxR)} {i : Nat} (h : i < Ls.length) : (Ls.take (i + 1)).flatten = (Ls.take i).flatten ++ Ls.getD i [] := by
 rw [List.take_succ_eq_append_getElem h, List.flatten_append, List.getD_eq_getElem?_getD, List.getElem?_eq_getElem h]
 simp
theorem flat_le (Ls : List (List BoxR)) (i : Nat) : (Ls.take i).flatten.length ≤ sumL Ls := by
 unfold sumL
 conv => rhs; rw [← List.take_append_drop i Ls, List.flatten_append, List.length_append]
 omega

set_option maxRecDepth 10000 in
set_option maxHeartbeats 1600000 in
theorem concat_box (ra : Option Addr) (n c : Nat) (Ls : List (List BoxR)) (w : World) (h : LogsAt w ra n Ls) (hn : n ≤ 1000) (hs : sumL Ls ≤ 100000) :
  Calls Tryz.prog 37 #[.slice ra n c] w fun e w' => ∃ v, e = .returned v ∧ w'.ownsRow w.heap.size 59 4 v (sumL Ls) (flat BoxE Ls.flatten) ∧ Below w.heap.size w w' := by
 have HL := Lib.hid h
 have hlen := h.1
 clear h
 go_enter Tryz.func37, Tryz.ntmps37
 go_wp2_with fail
 go_loopw [3, 11] (fun v3 v11 wr => ∃ i : Nat, v11 = .int .i64 i ∧ v3 = .int .i64 ((Ls.take i).flatten.length : Nat) ∧ w = wr ∧ i ≤ n) (fun _ v11 _ => n - (intOf v11).toNat)
 case atStart => exact ⟨0, rfl, rfl, rfl, Nat.zero_le _⟩
 case round =>
  obtain ⟨i, rfl, rfl, rfl, hi⟩ := hrel
  by_cases hlt : i < n
  ·
   obtain ⟨b, o, u, rfl, c0, hsc⟩ := HL.out.2 i hlt
   obtain ⟨la, cc, rfl, _⟩ := hsc
   have hf := congrArg List.length (flat_take (Ls := Ls) (i := i) (by omega))
   rw [List.length_append] at hf
   have hfl := flat_le Ls (i + 1)
   have HF := Lib.hid hf
   rw [hf] at hfl
   clear hf
   generalize (Ls.take i).flatten.length = p at *
   generalize (Ls.getD i []).length = q at *
   go_wp2_with fail
   go_roundw
   case rel => exact ⟨i + 1, by go_num, by rw [HF.out]; go_num, trivial, hlt⟩
   case measure => simp [intOf]; omega
  ·
   have hi' : i = n := by omega
   subst hi'
   have HT : Hid ((Ls.take i).flatten.length = sumL Ls) := by
    show _ = _
    rw [List.take_of_length_le (by omega)]
    rfl
   rw [HT.out]
   go_wp2_with fail
   refine (grow_box (sumL Ls) w (by omega)).mono ?_
   rintro e w1 ⟨v, rfl, ho, hb⟩
   have HO := Lib.hid ho
   have HB := Lib.hid hb
   clear ho hb
   go_wp2_with fail
   go_loopw [6, 27] (fun v6 v27 wr => ∃ j : Nat, v27 = .int .i64 j ∧ j ≤ i ∧ Hid (wr.ownsRow w.heap.size 59 4 v6 (Ls.take j).flatten.length (flat BoxE (Ls.take j).flatten)) ∧ Hid (Below w.heap.size w wr)) (fun _ v27 _ => i - (intOf v27).toNat)
   case atStart => exact ⟨0, rfl, Nat.zero_le _, HO.out, HB.out⟩
   case round =>
    clear HO HB
    obtain ⟨j, rfl, hj, HO, HB⟩ := hrel
    by_cases hlt2 : j < i
    ·
     obtain ⟨b, o, u, rfl, c0, hsc⟩ := (HL.out.below HB.out).2 j hlt2
     have HSC := Lib.hid hsc
     have hf := flat_take (Ls := Ls) (i := j) (by omega)
     have hfl := flat_le Ls (j + 1)
     rw [hf, List.length_append] at hfl
     have HF := Lib.hid hf
     clear hsc hf
     go_wp2_with (at_builtin; refine wpList_append_box rfl (.tmp 31) (.tmp 32) rfl rfl rfl HO.out HSC.out (by omega) HB.out.size ?_; intro v' w4 ho4 hg4 _; have HO4 := Lib.hid ho4; have HG4 := Lib.hid hg4; clear ho4 hg4)
     go_roundw
     case rel => exact ⟨j + 1, by go_num, hlt2, (by show World.ownsRow _ _ _ _ _ _ _; rw [HF.out, List.length_append]; exact HO4.out), HB.out.grown HG4.out HB.out.size (fun k hk => (HO.out.lt k hk).1)⟩
     case measure => simp [intOf]; omega
    ·
     have hj' : j = i := by omega
     subst hj'
     rw [List.take_of_length_le (by omega)] at HO
     go_wp2_with fail
     go_ret
     exact ⟨_, rfl, HO.out, HB.out⟩

end Go.Proofs.YtmcdhggnpfhlmaaGreat

namespace Go.Proofs.YtmcdhggnpfhlmaaGreat
open Go.RowKit Go.IntWalk
set_option linter.unusedSimpArgs false
set_option linter.unusedVariables false

theorem LevIn.cells {w : World} {g : Nat} {x : LevR} (h : LevIn w g x) : w.cell? ⟨g, 0, none⟩ = some (.string (bs x.name)) ∧ w.cell? ⟨g, 1, none⟩ = some (.int .i64 x.height) ∧ w.cell? ⟨g, 2, none⟩ = some (.slice x.ba x.bn x.bc) ∧ w.cell? ⟨g, 3, none⟩ = some (.slice x.aa x.an x.ac) ∧ w.cell? ⟨g, 4, none⟩ = some (.slice x.sa x.sn x.sc) ∧ w.cell? ⟨g, 5, none⟩ = some (.slice x.pa x.pn x.pc) ∧ w.cell? ⟨g, 6, none⟩ = some (.slice x.da x.dn x.dc) ∧ w.cell? ⟨g, 7, none⟩ = some (.int .i64 x.at') :=
 ⟨boxed_cell (j := 0) h rfl, boxed_cell (j := 1) h rfl, boxed_cell (j := 2) h rfl, boxed_cell (j := 3) h rfl, boxed_cell (j := 4) h rfl, boxed_cell (j := 5) h rfl, boxed_cell (j := 6) h rfl, boxed_cell (j := 7) h rfl⟩
theorem LevIn.down {w w' : World} {g : Nat} {x : LevR} (h : LevIn w g x) (hb : Below w.heap.size w w') : LevIn w' g x := (hb.block g (lt_of_block h)).trans h

/-- In a block of its own. -/
def RowIn (w : World) (g : Nat) (x : RowR) : Prop := w.heap[g]? = some (.cells #[.string (bs x.name), .int .i64 x.x, .int .i64 x.y, .int .i64 x.fr, .int .i64 x.to, .int .i64 x.step, .slice x.ma x.mn x.mc, .int .i64 x.at'] 49 (0, 0))
theorem RowIn.cells {w : World} {g : Nat} {x : RowR} (h : RowIn w g x) : w.cell? ⟨g, 0, none⟩ = some (.string (bs x.name)) ∧ w.cell? ⟨g, 1, none⟩ = some (.int .i64 x.x) ∧ w.cell? ⟨g, 2, none⟩ = some (.int .i64 x.y) ∧ w.cell? ⟨g, 3, none⟩ = some (.int .i64 x.fr) ∧ w.cell? ⟨g, 4, none⟩ = some (.int .i64 x.to) ∧ w.cell? ⟨g, 5, none⟩ = some (.int .i64 x.step) ∧ w.cell? ⟨g, 6, none⟩ = some (.slice x.ma x.mn x.mc) ∧ w.cell? ⟨g, 7, none⟩ = some (.int .i64 x.at') :=
 ⟨boxed_cell (j := 0) h rfl, boxed_cell (j := 1) h rfl, boxed_cell (j := 2) h rfl, boxed_cell (j := 3) h rfl, boxed_cell (j := 4) h rfl, boxed_cell (j := 5) h rfl, boxed_cell (j := 6) h rfl, boxed_cell (j := 7) h rfl⟩
theorem RowIn.down {w w' : World} {g : Nat} {x : RowR} (h : RowIn w g x) (hb : Below w.heap.size w w') : RowIn w' g x := (hb.block g (lt_of_block h)).trans h

/-- In a block of its own. -/
def BlkIn (w : World) (g : Nat) (x : BlkR) : Prop := w.heap[g]? = some (.cells #[.string (bs x.name), .slice x.ra x.rn x.rc, .int .i64 x.at'] 57 (0, 0))
theorem BlkIn.cells {w : World} {g : Nat} {x : BlkR} (h : BlkIn w g x) : w.cell? ⟨g, 0, none⟩ = some (.string (bs x.name)) ∧ w.cell? ⟨g, 1, none⟩ = some (.slice x.ra x.rn x.rc) ∧ w.cell? ⟨g, 2, none⟩ = some (.int .i64 x.at') :=
 ⟨boxed_cell (j := 0) h rfl, boxed_cell (j := 1) h rfl, boxed_cell (j := 2) h rfl⟩
theorem BlkIn.down {w w' : World} {g : Nat} {x : BlkR} (h : BlkIn w g x) (hb : Below w.heap.size w w') : BlkIn w' g x := (hb.block g (lt_of_block h)).trans h

/-- In a block of its own. -/
def AreaIn (w : World) (g : Nat) (x : AreaR) : Prop := w.heap[g]? = some (.cells #[.string (bs x.name), .int .i64 x.box.x, .int .i64 x.box.y, .int .i64 x.box.x2, .int .i64 x.box.y2, .int .i64 x.holds, .int .i64 x.at'] 61 (0, 0))
theorem AreaIn.cells {w : World} {g : Nat} {x : AreaR} (h : AreaIn w g x) : w.cell? ⟨g, 0, none⟩ = some (.string (bs x.name)) ∧ w.cell? ⟨g, 1, none⟩ = some (.int .i64 x.box.x) ∧ w.cell? ⟨g, 2, none⟩ = some (.int .i64 x.box.y) ∧ w.cell? ⟨g, 3, none⟩ = some (.int .i64 x.box.x2) ∧ w.cell? ⟨g, 4, none⟩ = some (.int .i64 x.box.y2) ∧ w.cell? ⟨g, 5, none⟩ = some (.int .i64 x.holds) ∧ w.cell? ⟨g, 6, none⟩ = some (.int .i64 x.at') :=
 ⟨boxed_cell (j := 0) h rfl, boxed_cell (j := 1) h rfl, boxed_cell (j := 2) h rfl, boxed_cell (j := 3) h rfl, boxed_cell (j := 4) h rfl, boxed_cell (j := 5) h rfl, boxed_cell (j := 6) h rfl⟩
theorem AreaIn.down {w w' : World} {g : Nat} {x : AreaR} (h : AreaIn w g x) (hb : Below w.heap.size w w') : AreaIn w' g x := (hb.block g (lt_of_block h)).trans h

/-- In a block of its own. -/
def MarkIn (w : World) (g : Nat) (x : MarkR) : Prop := w.heap[g]? = some (.cells #[.int .i64 x.kind, .int .i64 x.seat, .int .i64 x.wth] 46 (0, 0))
theorem MarkIn.cells {w : World} {g : Nat} {x : MarkR} (h : MarkIn w g x) : w.cell? ⟨g, 0, none⟩ = some (.int .i64 x.kind) ∧ w.cell? ⟨g, 1, none⟩ = some (.int .i64 x.seat) ∧ w.cell? ⟨g, 2, none⟩ = some (.int .i64 x.wth) :=
 ⟨boxed_cell (j := 0) h rfl, boxed_cell (j := 1) h rfl, boxed_cell (j := 2) h rfl⟩
theorem MarkIn.down {w w' : World} {g : Nat} {x : MarkR} (h : MarkIn w g x) (hb : Below w.heap.size w w') : MarkIn w' g x := (hb.block g (lt_of_block h)).trans h

set_option maxRecDepth 100000 in
set_option maxHeartbeats 8000000 in
theorem cl_level (w : World) (x : LevR) (gl : Nat) (l : LevR) (h : LevIn w gl l) :
  Calls Tryz.prog 36 #[.agg #[.string (bs x.name), .int .i64 x.height, .slice x.ba x.bn x.bc, .slice x.aa x.an x.ac, .slice x.sa x.sn x.sc, .slice x.pa x.pn x.pc, .slice x.da x.dn x.dc, .int .i64 x.at'], .pointer (some ⟨gl, 0, none⟩)] w fun e w' => e = .returned (.bool (decide (x.name = l.name))) ∧ Below w.heap.size w w' := by
 have HL := Lib.hid h
 have hb := bs_beq x.name l.name
 clear h
 refine enter_fr (N := 9) [.agg #[.string (bs x.name), .int .i64 x.height, .slice x.ba x.bn x.bc, .slice x.aa x.an x.ac, .slice x.sa x.sn x.sc, .slice x.pa x.pn x.pc, .slice x.da x.dn x.dc, .int .i64 x.at'], .pointer (some ⟨gl, 0, none⟩)] (Tryz.func36) rfl Tryz.ntmps36 (by rfl) (fun a hF => ?_);replace hF := hF.kp [0, 1] rfl;refine wp_seq_k (fun K hK => ?_);refine region_seq (l := [0, 1]) (by kernel_rfl) ?_;refine seq_one ?_;revert hF;refine qe1 fun a hF => ?_;revert hF;refine zre 1 [2] [1, 2] fun a hF => ?_;refine hK _ _ ?_;clear hK
 have HB := Lib.hid (Joins.below_alloc1 w (.cells #[.string (bs x.name), .int .i64 x.height, .slice x.ba x.bn x.bc, .slice x.aa x.an x.ac, .slice x.sa x.sn x.sc, .slice x.pa x.pn x.pc, .slice x.da x.dn x.dc, .int .i64 x.at'] 32))
 have HX : Hid ((w.alloc (.cells #[.string (bs x.name), .int .i64 x.height, .slice x.ba x.bn x.bc, .slice x.aa x.an x.ac, .slice x.sa x.sn x.sc, .slice x.pa x.pn x.pc, .slice x.da x.dn x.dc, .int .i64 x.at'] 32)).heap[w.heap.size]? = some (.cells #[.string (bs x.name), .int .i64 x.height, .slice x.ba x.bn x.bc, .slice x.aa x.an x.ac, .slice x.sa x.sn x.sc, .slice x.pa x.pn x.pc, .slice x.da x.dn x.dc, .int .i64 x.at'] 32 (0, 0))) := World.alloc_heap_new w _
 have HL1 := Lib.hid (HL.out.down HB.out)
 clear HL
 generalize w.alloc (.cells #[.string (bs x.name), .int .i64 x.height, .slice x.ba x.bn x.bc, .slice x.aa x.an x.ac, .slice x.sa x.sn x.sc, .slice x.pa x.pn x.pc, .slice x.da x.dn x.dc, .int .i64 x.at'] 32) = w1 at *
 generalize w.heap.size = g at *
 have c0 : w1.cell? ⟨g, 0, none⟩ = some (.string (bs x.name)) := boxed_cell (j := 0) HX.out rfl
 have d0 : w1.cell? ⟨gl, 0, none⟩ = some (.string (bs l.name)) := boxed_cell (j := 0) HL1.out rfl
 revert hF;refine zrs [4, 4, 4, 4, 5, 2] [3] fun a hF => ?_;refine wp_ret ?_;(try simp only [then_ret, block_ret, goto_ret]);revert hF;refine zq ?_
 exact ⟨rfl, HB.out⟩

set_option maxRecDepth 100000 in
set_option maxHeartbeats 8000000 in
theorem cl_row (w : World) (x : RowR) (gl : Nat) (l : RowR) (h : RowIn w gl l) :
  Calls Tryz.prog 45 #[.agg #[.string (bs x.name), .int .i64 x.x, .int .i64 x.y, .int .i64 x.fr, .int .i64 x.to, .int .i64 x.step, .slice x.ma x.mn x.mc, .int .i64 x.at'], .pointer (some ⟨gl, 0, none⟩)] w fun e w' => e = .returned (.bool (decide (x.name = l.name))) ∧ Below w.heap.size w w' := by
 have HL := Lib.hid h
 have hb := bs_beq x.name l.name
 clear h
 refine enter_fr (N := 9) [.agg #[.string (bs x.name), .int .i64 x.x, .int .i64 x.y, .int .i64 x.fr, .int .i64 x.to, .int .i64 x.step, .slice x.ma x.mn x.mc, .int .i64 x.at'], .pointer (some ⟨gl, 0, none⟩)] (Tryz.func45) rfl Tryz.ntmps45 (by rfl) (fun a hF => ?_);replace hF := hF.kp [0, 1] rfl;refine wp_seq_k (fun K hK => ?_);refine region_seq (l := [0, 1]) (by kernel_rfl) ?_;refine seq_one ?_;revert hF;refine qe1 fun a hF => ?_;revert hF;refine zre 1 [2] [1, 2] fun a hF => ?_;refine hK _ _ ?_;clear hK
 have HB := Lib.hid (Joins.below_alloc1 w (.cells #[.string (bs x.name), .int .i64 x.x, .int .i64 x.y, .int .i64 x.fr, .int .i64 x.to, .int .i64 x.step, .slice x.ma x.mn x.mc, .int .i64 x.at'] 49))
 have HX : Hid ((w.alloc (.cells #[.string (bs x.name), .int .i64 x.x, .int .i64 x.y, .int .i64 x.fr, .int .i64 x.to, .int .i64 x.step, .slice x.ma x.mn x.mc, .int .i64 x.at'] 49)).heap[w.heap.size]? = some (.cells #[.string (bs x.name), .int .i64 x.x, .int .i64 x.y, .int .i64 x.fr, .int .i64 x.to, .int .i64 x.step, .slice x.ma x.mn x.mc, .int .i64 x.at'] 49 (0, 0))) := World.alloc_heap_new w _
 have HL1 := Lib.hid (HL.out.down HB.out)
 clear HL
 generalize w.alloc (.cells #[.string (bs x.name), .int .i64 x.x, .int .i64 x.y, .int .i64 x.fr, .int .i64 x.to, .int .i64 x.step, .slice x.ma x.mn x.mc, .int .i64 x.at'] 49) = w1 at *
 generalize w.heap.size = g at *
 have c0 : w1.cell? ⟨g, 0, none⟩ = some (.string (bs x.name)) := boxed_cell (j := 0) HX.out rfl
 have d0 : w1.cell? ⟨gl, 0, none⟩ = some (.string (bs l.name)) := boxed_cell (j := 0) HL1.out rfl
 revert hF;refine zrs [4, 4, 4, 4, 5, 2] [3] fun a hF => ?_;refine wp_ret ?_;(try simp only [then_ret, block_ret, goto_ret]);revert hF;refine zq ?_
 exact ⟨rfl, HB.out⟩

set_option maxRecDepth 100000 in
set_option maxHeartbeats 8000000 in
theorem cl_area1 (w : World) (x : BlkR) (gl : Nat) (l : AreaR) (h : AreaIn w gl l) :
  Calls Tryz.prog 48 #[.agg #[.string (bs x.name), .slice x.ra x.rn x.rc, .int .i64 x.at'], .pointer (some ⟨gl, 0, none⟩)] w fun e w' => e = .returned (.bool (decide (x.name = l.name))) ∧ Below w.heap.size w w' := by
 have HL := Lib.hid h
 have hb := bs_beq x.name l.name
 clear h
 refine enter_fr (N := 9) [.agg #[.string (bs x.name), .slice x.ra x.rn x.rc, .int .i64 x.at'], .pointer (some ⟨gl, 0, none⟩)] (Tryz.func48) rfl Tryz.ntmps48 (by rfl) (fun a hF => ?_);replace hF := hF.kp [0, 1] rfl;refine wp_seq_k (fun K hK => ?_);refine region_seq (l := [0, 1]) (by kernel_rfl) ?_;refine seq_one ?_;revert hF;refine qe1 fun a hF => ?_;revert hF;refine zre 1 [2] [1, 2] fun a hF => ?_;refine hK _ _ ?_;clear hK
 have HB := Lib.hid (Joins.below_alloc1 w (.cells #[.string (bs x.name), .slice x.ra x.rn x.rc, .int .i64 x.at'] 57))
 have HX : Hid ((w.alloc (.cells #[.string (bs x.name), .slice x.ra x.rn x.rc, .int .i64 x.at'] 57)).heap[w.heap.size]? = some (.cells #[.string (bs x.name), .slice x.ra x.rn x.rc, .int .i64 x.at'] 57 (0, 0))) := World.alloc_heap_new w _
 have HL1 := Lib.hid (HL.out.down HB.out)
 clear HL
 generalize w.alloc (.cells #[.string (bs x.name), .slice x.ra x.rn x.rc, .int .i64 x.at'] 57) = w1 at *
 generalize w.heap.size = g at *
 have c0 : w1.cell? ⟨g, 0, none⟩ = some (.string (bs x.name)) := boxed_cell (j := 0) HX.out rfl
 have d0 : w1.cell? ⟨gl, 0, none⟩ = some (.string (bs l.name)) := boxed_cell (j := 0) HL1.out rfl
 revert hF;refine zrs [4, 4, 4, 4, 5, 2] [3] fun a hF => ?_;refine wp_ret ?_;(try simp only [then_ret, block_ret, goto_ret]);revert hF;refine zq ?_
 exact ⟨rfl, HB.out⟩

set_option maxRecDepth 100000 in
set_option maxHeartbeats 8000000 in
theorem cl_area2 (w : World) (x : AreaR) (gl : Nat) (l : AreaR) (h : AreaIn w gl l) :
  Calls Tryz.prog 50 #[.agg #[.string (bs x.name), .int .i64 x.box.x, .int .i64 x.box.y, .int .i64 x.box.x2, .int .i64 x.box.y2, .int .i64 x.holds, .int .i64 x.at'], .pointer (some ⟨gl, 0, none⟩)] w fun e w' => e = .returned (.bool (decide (x.name = l.name))) ∧ Below w.heap.size w w' := by
 have HL := Lib.hid h
 have hb := bs_beq x.name l.name
 clear h
 refine enter_fr (N := 9) [.agg #[.string (bs x.name), .int .i64 x.box.x, .int .i64 x.box.y, .int .i64 x.box.x2, .int .i64 x.box.y2, .int .i64 x.holds, .int .i64 x.at'], .pointer (some ⟨gl, 0, none⟩)] (Tryz.func50) rfl Tryz.ntmps50 (by rfl) (fun a hF => ?_);replace hF := hF.kp [0, 1] rfl;refine wp_seq_k (fun K hK => ?_);refine region_seq (l := [0, 1]) (by kernel_rfl) ?_;refine seq_one ?_;revert hF;refine qe1 fun a hF => ?_;revert hF;refine zre 1 [2] [1, 2] fun a hF => ?_;refine hK _ _ ?_;clear hK
 have HB := Lib.hid (Joins.below_alloc1 w (.cells #[.string (bs x.name), .int .i64 x.box.x, .int .i64 x.box.y, .int .i64 x.box.x2, .int .i64 x.box.y2, .int .i64 x.holds, .int .i64 x.at'] 61))
 have HX : Hid ((w.alloc (.cells #[.string (bs x.name), .int .i64 x.box.x, .int .i64 x.box.y, .int .i64 x.box.x2, .int .i64 x.box.y2, .int .i64 x.holds, .int .i64 x.at'] 61)).heap[w.heap.size]? = some (.cells #[.string (bs x.name), .int .i64 x.box.x, .int .i64 x.box.y, .int .i64 x.box.x2, .int .i64 x.box.y2, .int .i64 x.holds, .int .i64 x.at'] 61 (0, 0))) := World.alloc_heap_new w _
 have HL1 := Lib.hid (HL.out.down HB.out)
 clear HL
 generalize w.alloc (.cells #[.string (bs x.name), .int .i64 x.box.x, .int .i64 x.box.y, .int .i64 x.box.x2, .int .i64 x.box.y2, .int .i64 x.holds, .int .i64 x.at'] 61) = w1 at *
 generalize w.heap.size = g at *
 have c0 : w1.cell? ⟨g, 0, none⟩ = some (.string (bs x.name)) := boxed_cell (j := 0) HX.out rfl
 have d0 : w1.cell? ⟨gl, 0, none⟩ = some (.string (bs l.name)) := boxed_cell (j := 0) HL1.out rfl
 revert hF;refine zrs [4, 4, 4, 4, 5, 2] [3] fun a hF => ?_;refine wp_ret ?_;(try simp only [then_ret, block_ret, goto_ret]);revert hF;refine zq ?_
 exact ⟨rfl, HB.out⟩

set_option maxRecDepth 100000 in
set_option maxHeartbeats 8000000 in
theorem cl_box (w : World) (b : BoxR) :
  Calls Tryz.prog 39 #[.agg #[.int .i64 b.x, .int .i64 b.y, .int .i64 b.x2, .int .i64 b.y2]] w fun e w' => e = .returned (.bool (!boxB b)) ∧ Below w.heap.size w w' := by
 refine enter_fr (N := 6) [.agg #[.int .i64 b.x, .int .i64 b.y, .int .i64 b.x2, .int .i64 b.y2]] (Tryz.func39) rfl Tryz.ntmps39 (by rfl) (fun a hF => ?_);replace hF := hF.kp [0] rfl;refine wp_seq_k (fun K hK => ?_);refine region_seq (l := [0, 1]) (by kernel_rfl) ?_;refine seq_one ?_;revert hF;refine qe1 fun a hF => ?_;revert hF;refine zre 1 [2] [1] fun a hF => ?_;refine hK _ _ ?_;clear hK
 have HB := Lib.hid (Joins.below_alloc1 w (.cells #[.int .i64 b.x, .int .i64 b.y, .int .i64 b.x2, .int .i64 b.y2] 59))
 have HX : Hid (BoxIn (w.alloc (.cells #[.int .i64 b.x, .int .i64 b.y, .int .i64 b.x2, .int .i64 b.y2] 59)) w.heap.size b) := World.alloc_heap_new w _
 generalize w.alloc (.cells #[.int .i64 b.x, .int .i64 b.y, .int .i64 b.x2, .int .i64 b.y2] 59) = w1 at *
 obtain ⟨g, hg⟩ : ∃ g, g = w.heap.size := ⟨_, rfl⟩
 rw [← hg] at hF HX
 clear hg
 obtain ⟨c0, c1, c2, c3⟩ := HX.out.cells
 refine wp_seq_k (fun K hK => ?_);revert hF;refine zrp [4] [1, 2, 3] fun a hF => ?_;revert hF;refine zos fun K hK => ?_
 refine (box_any w1 b).mono ?_
 rintro e w2 ⟨rfl, hb⟩
 have HB2 : Hid (Below w.heap.size w w2) := HB.out.trans (hb.mono HB.out.size)
 clear hb HB
 generalize boxB b = y at *
 refine hK _ _ (fun a hF => ?_);clear hK K;revert hF;refine zre 2 [4, 2] [2] fun a hF => ?_;refine hK _ _ ?_;clear hK;refine wp_ret ?_;(try simp only [then_ret, block_ret, goto_ret]);revert hF;refine zq ?_
 exact ⟨rfl, HB2.out⟩

set_option maxRecDepth 100000 in
set_option maxHeartbeats 8000000 in
theorem cl_door (w : World) (p : PntR) :
  Calls Tryz.prog 41 #[.agg #[.int .i64 p.x, .int .i64 p.y]] w fun e w' => e = .returned (.bool (!(coordB p.x && coordB p.y))) ∧ Below w.heap.size w w' := by
 obtain ⟨px, py⟩ := p
 dsimp only
 refine enter_fr (N := 10) [.agg #[.int .i64 px, .int .i64 py]] (Tryz.func41) rfl Tryz.ntmps41 (by rfl) (fun a hF => ?_);replace hF := hF.kp [0] rfl;refine wp_seq_k (fun K hK => ?_);refine region_seq (l := [0, 1]) (by kernel_rfl) ?_;refine seq_one ?_;revert hF;refine qe1 fun a hF => ?_;revert hF;refine zre 1 [2] [1] fun a hF => ?_;refine hK _ _ ?_;clear hK
 have HB := Lib.hid (Joins.below_alloc1 w (.cells #[.int .i64 px, .int .i64 py] 23))
 have HX : Hid ((w.alloc (.cells #[.int .i64 px, .int .i64 py] 23)).heap[w.heap.size]? = some (.cells #[.int .i64 px, .int .i64 py] 23 (0, 0))) := World.alloc_heap_new w _
 generalize w.alloc (.cells #[.int .i64 px, .int .i64 py] 23) = w1 at *
 obtain ⟨g, hg⟩ : ∃ g, g = w.heap.size := ⟨_, rfl⟩
 rw [← hg] at hF HX
 clear hg
 have c0 : w1.cell? ⟨g, 0, none⟩ = some (.int .i64 px) := boxed_cell (j := 0) HX.out rfl
 have c1 : w1.cell? ⟨g, 1, none⟩ = some (.int .i64 py) := boxed_cell (j := 1) HX.out rfl
 refine wp_seq_k (fun K hK => ?_);revert hF;refine zrp [4, 4, 4, 4] [4, 5, 6, 7] fun a hF => ?_;refine seq_one ?_;revert hF;refine qe2 fun a hF => ?_
 have HR := Lib.hid (recs_alloc IntE w1 3 [px, py] #[.int .i64 px, .int .i64 py] rfl)
 have HB2 := Lib.hid (Joins.below_alloc1 w1 (.cells #[.int .i64 px, .int .i64 py] 3))
 have HC := Lib.hid (coords_any _ _ _ 2 _ HR.out (by simp))
 generalize w1.alloc (.cells #[.int .i64 px, .int .i64 py] 3) = w2 at *
 revert hF;refine zos fun K hK => ?_
 refine HC.out.mono ?_
 rintro e w3 ⟨rfl, hb3⟩
 have HB3 : Hid (Below w.heap.size w w3) := HB.out.trans ((HB2.out.trans (hb3.mono HB2.out.size)).mono HB.out.size)
 have HE : Hid ([px, py].all coordB = (coordB px && coordB py)) := by simp [Hid]
 generalize [px, py].all coordB = y at *
 clear c0 c1 HB HB2 HR HC hb3
 refine hK _ _ (fun a hF => ?_);clear hK K;revert hF;refine zre 6 [4, 2] [2] fun a hF => ?_;refine hK _ _ ?_;clear hK;refine wp_ret ?_;(try simp only [then_ret, block_ret, goto_ret]);revert hF;refine zq ?_
 exact ⟨by rw [← HE.out]; rfl, HB3.out⟩

set_option maxRecDepth 100000 in
set_option maxHeartbeats 8000000 in
theorem cl_block (w : World) (x : BlkR) (ga gi : Nat) (ra : Option Addr) (n c i : Nat) (l : List BlkR) (hl : Recs BlkE w ra n l) (hi : i < l.length) (h1 : w.cell? ⟨ga, 0, none⟩ = some (.slice ra n c)) (h2 : w.cell? ⟨gi, 0, none⟩ = some (.int .i64 i)) :
  Calls Tryz.prog 43 #[.agg #[.string (bs x.name), .slice x.ra x.rn x.rc, .int .i64 x.at'], .pointer (some ⟨ga, 0, none⟩), .pointer (some ⟨gi, 0, none⟩)] w fun e w' => e = .returned (.bool (decide (x.name = l[i].name))) ∧ Below w.heap.size w w' := by
 have hb := bs_beq x.name l[i].name
 have HL := Lib.hid hl
 obtain rfl : l.length = n := hl.1
 have hii : (i : Int) < l.length := by omega
 clear hl
 refine enter_fr (N := 13) [.agg #[.string (bs x.name), .slice x.ra x.rn x.rc, .int .i64 x.at'], .pointer (some ⟨ga, 0, none⟩), .pointer (some ⟨gi, 0, none⟩)] (Tryz.func43) rfl Tryz.ntmps43 (by rfl) (fun a hF => ?_);replace hF := hF.kp [0, 1, 2] rfl;refine wp_seq_k (fun K hK => ?_);refine region_seq (l := [0, 1]) (by kernel_rfl) ?_;refine seq_one ?_;revert hF;refine qe1 fun a hF => ?_;revert hF;refine zre 1 [2] [1, 2, 3] fun a hF => ?_;refine hK _ _ ?_;clear hK
 have HB := Lib.hid (Joins.below_alloc1 w (.cells #[.string (bs x.name), .slice x.ra x.rn x.rc, .int .i64 x.at'] 57))
 have HX : Hid ((w.alloc (.cells #[.string (bs x.name), .slice x.ra x.rn x.rc, .int .i64 x.at'] 57)).heap[w.heap.size]? = some (.cells #[.string (bs x.name), .slice x.ra x.rn x.rc, .int .i64 x.at'] 57 (0, 0))) := World.alloc_heap_new w _
 have d1 := Below.cell_of HB.out h1
 have d2 := Below.cell_of HB.out h2
 obtain ⟨b, o, rfl, e0, e1, e2⟩ := blk_at (HL.out.below HB.out) i hi hi
 clear h1 h2 HL
 generalize w.alloc (.cells #[.string (bs x.name), .slice x.ra x.rn x.rc, .int .i64 x.at'] 57) = w1 at *
 generalize w.heap.size = g at *
 have c0 : w1.drew.cell? ⟨g, 0, none⟩ = some (.string (bs x.name)) := boxed_cell (j := 0) HX.out rfl
 have f1 : w1.drew.cell? ⟨ga, 0, none⟩ = some (.slice (some ⟨b, o, none⟩) l.length c) := d1
 have f2 : w1.drew.cell? ⟨gi, 0, none⟩ = some (.int .i64 i) := d2
 have g0 : w1.drew.cell? ⟨b, o + i * 3, none⟩ = some (.string (bs l[i].name)) := e0
 clear d1 d2 e0 e1 e2
 generalize l[i].name = nm at *
 refine wp_seq_k (fun K hK => ?_);refine region_any (by kernel_rfl) ?_;revert hF;refine zrb (fuel := 0) [9, 52, 84, 116, 138, 169, 212, 234, 258] [4] fun a hF => ?_;refine hK _ _ ?_;clear hK;refine wp_ret ?_;(try simp only [then_ret, block_ret, goto_ret]);revert hF;refine zq ?_
 exact ⟨rfl, below_d HB.out⟩

end Go.Proofs.YtmcdhggnpfhlmaaGreat