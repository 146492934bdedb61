/- PackRoom: plain: a further run, a further group, a longer run; append(append([]T{}, l...), x): the states in whatever order the two literals are made. -/
import Derived.Test.YthabgljdndbphaaGreatDoorQPKP32
import Derived.Test.YthabgljdndbphaaGreatDoorQPKP49

set_option linter.unusedVariables false
set_option linter.unusedSimpArgs false
namespace Go.Proofs.YthabgljdndbphaaGreatDoor
set_option linter.unusedSimpArgs false
set_option linter.unusedVariables false

section
variable {single : Bool} {R R' : List Int} {G : List (Int × Int)} {c : Nat → Int}
/-- Runs that have no less room bear the same choices. -/
theorem choice_rooms (h : Choice single R G c) (hl : R.length ≤ R'.length) (hr : ∀ r, r < R.length → ix R r ≤ ix R' r) (h0 : ∀ r, R.length ≤ r → r < R'.length → 0 ≤ ix R' r) (hs : single = true → ∀ r, r < R.length → ix R' r = ix R r) (hv : ValuesOk G) : Choice single R' G c := by
 have hb : ∀ i, i < G.length → c i < R.length := fun i hi => (h.runs i hi).2
 have hb' : ∀ i, i < G.length → c i < R'.length := fun i hi => by have := hb i hi; omega
 refine ⟨fun i hi => ⟨(h.runs i hi).1, hb' i hi⟩, fun r hr2 => ?_, fun hsg r hr2 hex => ?_⟩
 ·
  rw [room_takes R' G c r _ hb']
  by_cases e : r < R.length
  ·
   have := h.room r e
   rw [room_takes R G c r _ hb] at this
   have := hr r e
   omega
  ·
   have hz : ∀ n, n ≤ G.length → takes G c r n = 0 := by
    intro n
    induction n with
    | zero => intro _; rfl
    | succ n ih =>
     intro hn
     have := hb n (by omega)
     rw [takes, sumRows, ← takes, ih (by omega), if_neg (by omega)]
     rfl
   rw [hz _ (Nat.le_refl _)]
   have := h0 r (by omega) hr2
   omega
 ·
  obtain ⟨i, hi, e⟩ := hex
  have hrl : r < R.length := by have := hb i hi; omega
  have := h.one hsg r hrl ⟨i, hi, e⟩
  rw [room_takes R G c r _ hb] at this
  rw [room_takes R' G c r _ hb', hs hsg r hrl]
  exact this
theorem pack_rooms (hv : validS R G = true) (hl : R.length ≤ R'.length) (hr : ∀ r, r < R.length → ix R r ≤ ix R' r) (h0 : ∀ r, R.length ≤ r → r < R'.length → 0 ≤ ix R' r) (hs : single = true → ∀ r, r < R.length → ix R' r = ix R r) :
  packF single G G.length 0 (R.map run0) ≤ packF single G G.length 0 (R'.map run0) := by
 have hp := (validS_parts hv).2.2
 obtain ⟨c, h1, h2, _, _⟩ := sol_first (single := single) hv
 have := (choice_upper hp (choice_rooms h1 hl hr h0 hs hp) G.length 0 (R'.map run0) (by omega) (At.start R' G _)).2.2
 have e0 : valS G (dec c 0) = 0 := rfl
 rw [e0, h2, Int.zero_add] at this
 exact this
/-- A further run. -/
theorem pack_more (hv : validS R G = true) {x : Int} (hx : 0 ≤ x) : packF single G G.length 0 (R.map run0) ≤ packF single G G.length 0 ((R ++ [x]).map run0) := by
 have e : ∀ r, r < R.length → ix (R ++ [x]) r = ix R r := fun r hr => by unfold ix; simp [hr, List.getElem?_append]
 refine pack_rooms hv (by simp) (fun r hr => by rw [e r hr]; exact Int.le_refl _) (fun r h1 h2 => ?_) (fun _ r hr => e r hr)
 have : r = R.length := by simp at h2; omega
 subst this
 unfold ix
 simp
 exact hx
/-- A longer run. -/
theorem pack_long (hv : validS R G = true) {q : Nat} (hq : q < R.length) : packF false G G.length 0 (R.map run0) ≤ packF false G G.length 0 ((R.set q (ix R q + 1)).map run0) := by
 refine pack_rooms hv (by simp) (fun r hr => ?_) (fun r h1 h2 => by simp at h2; omega) (fun h => by cases h)
 rw [ix_set _ _ _ _ hq]
 by_cases e : q = r
 ·
  rw [if_pos e, e]; omega
 ·
  rw [if_neg e]; exact Int.le_refl _
end
section
variable {R : List Int} {G : List (Int × Int)} {g : Int × Int} {c : Nat → Int}
theorem gs_app {i : Nat} (hi : i < G.length) : gs (G ++ [g]) i = gs G i ∧ gv (G ++ [g]) i = gv G i := by
 unfold gs gv
 simp [List.getD_eq_getElem?_getD, List.getElem?_append, hi]
theorem gs_last : gs (G ++ [g]) G.length = g.1 ∧ gv (G ++ [g]) G.length = g.2 := by
 unfold gs gv
 simp [List.getD_eq_getElem?_getD]
theorem takes_app (r : Int) : ∀ n, n ≤ G.length → takes (G ++ [g]) c r n = takes G c r n := fun n hn =>
 sumRows_congr _ _ _ fun i hi => by rw [(gs_app (g := g) (show i < G.length by omega)).1]
theorem val_app (hr : ∀ i, i < G.length → -1 ≤ c i) : ∀ n, n ≤ G.length → valS (G ++ [g]) (dec c n) = valS G (dec c n)
 | 0, _ => rfl
 | n + 1, h => by
  have ih := val_app hr n (by omega)
  obtain ⟨e1, e2⟩ := gs_app (G := G) (g := g) (show n < G.length by omega)
  have := hr n (by omega)
  by_cases e : c n = -1
  ·
   rw [val_out' e, val_out' e, ih]
  ·
   obtain ⟨q, hq⟩ : ∃ q : Nat, c n = (q : Int) := ⟨(c n).toNat, by omega⟩
   rw [val_sit' hq, val_sit' hq, ih, e1, e2]
/-- A further group: not less, and at most what it brings. -/
theorem pack_wide (hv : validS R G = true) (hv2 : validS R (G ++ [g]) = true) :
  packF false G G.length 0 (R.map run0) ≤ packF false (G ++ [g]) (G ++ [g]).length 0 (R.map run0) ∧
  packF false (G ++ [g]) (G ++ [g]).length 0 (R.map run0) ≤ packF false G G.length 0 (R.map run0) + g.1 * g.2 := by
 have hp := (validS_parts hv).2.2
 have hp2 := (validS_parts hv2).2.2
 have hl : (G ++ [g]).length = G.length + 1 := by simp
 have e0 : ∀ (H : List (Int × Int)) (c : Nat → Int), valS H (dec c 0) = 0 := fun _ _ => rfl
 have hgv := hp2 G.length (by omega)
 rw [gs_last.1, gs_last.2] at hgv
 have hpos : 0 ≤ g.1 * g.2 := Int.mul_nonneg (by omega) (by omega)
 constructor
 ·
  obtain ⟨c, h1, h2, _, _⟩ := sol_first (single := false) hv
  have hb : ∀ i, i < G.length → c i < R.length := fun i hi => (h1.runs i hi).2
  have hC : Choice false R (G ++ [g]) (updC c G.length (-1)) := by
   refine ⟨fun i hi => ?_, fun r hr => ?_, fun h => by cases h⟩
   ·
    by_cases e : i = G.length
    ·
     subst e; rw [updC_at]; omega
    ·
     rw [updC_lt _ _ _ (by omega)]; exact h1.runs i (by omega)
   ·
    rw [hl, dec_upd, roomS_push, roomF]
    dsimp only
    rw [if_neg (by omega), room_takes R (G ++ [g]) c r _ hb, takes_app _ _ (Nat.le_refl _), ← room_takes R G c r _ hb]
    exact h1.room r hr
  have := (choice_upper hp2 hC (G ++ [g]).length 0 (R.map run0) (by omega) (At.start R _ _)).2.2
  rw [e0, hl, val_out, val_app (fun i hi => (h1.runs i hi).1) _ (Nat.le_refl _), h2] at this
  rw [hl]
  omega
 ·
  obtain ⟨c, h1, h2, _, _⟩ := sol_first (single := false) hv2
  rw [hl] at h2 ⊢
  have hb2 : ∀ i, i < (G ++ [g]).length → c i < R.length := fun i hi => (h1.runs i hi).2
  have hb : ∀ i, i < G.length → c i < R.length := fun i hi => hb2 i (by omega)
  have hC : Choice false R G c := by
   refine ⟨fun i hi => h1.runs i (by omega), fun r hr => ?_, fun h => by cases h⟩
   have := h1.room r hr
   rw [room_takes R (G ++ [g]) c r _ hb2, hl, takes, sumRows, ← takes, takes_app _ _ (Nat.le_refl _), gs_last.1] at this
   rw [room_takes R G c r _ hb]
   split at this <;> omega
  have hu := (choice_upper hp hC G.length 0 (R.map run0) (by omega) (At.start R G _)).2.2
  rw [e0] at hu
  have hr := h1.runs G.length (by omega)
  have hval := val_app (g := g) (c := c) (G := G) (fun i hi => (h1.runs i (by omega)).1) _ (Nat.le_refl _)
  by_cases e : c G.length = -1
  ·
   rw [val_out' e, hval] at h2
   omega
  ·
   obtain ⟨q, hq⟩ : ∃ q : Nat, c G.length = (q : Int) := ⟨(c G.length).toNat, by omega⟩
   rw [val_sit' hq, hval, gs_last.1, gs_last.2] at h2
   omega
end
end Go.Proofs.YthabgljdndbphaaGreatDoor

namespace Go.Proofs.YthabgljdndbphaaGreatDoor
open Go.RowKit Go.IntWalk
set_option linter.unusedSimpArgs false
set_option linter.unusedVariables false

theorem own_fresh {α : Type} {k : Nat} {E : Enc α k} {w : World} {B g : Nat} {T : TypeId} {x : α} {arr : Array Value} (h : w.heap[g]? = some (.cells arr T (0, 0))) (ha : arr = (E.cells x).toArray) (hB : B ≤ g) : w.ownsRow B T k (.slice (some ⟨g, 0, none⟩) 1 1) 1 (flat E [x]) := by
 subst ha
 refine ⟨by rw [flat_len]; simp, .inr ⟨g, 1, _, rfl, hB, h, Nat.le_refl _, by unfold maxLen; omega, by simp [E.len], ?_⟩⟩
 rw [flat_single, List.take_of_length_le (by simp [E.len])]
theorem recs_one {α : Type} {k : Nat} {E : Enc α k} {w : World} {g : Nat} {T : TypeId} {x : α} {arr : Array Value} (h : w.heap[g]? = some (.cells arr T (0, 0))) (ha : arr = (E.cells x).toArray) : Recs E w (some ⟨g, 0, none⟩) 1 [x] := by
 obtain ⟨la, c, e, hr, _⟩ := Rcs.of_own (own_fresh (B := 0) h ha (Nat.zero_le _))
 simp only [Value.slice.injEq] at e
 obtain ⟨rfl, _, _⟩ := e
 exact hr

theorem own_none {α : Type} {k : Nat} {E : Enc α k} {w : World} {B : Nat} (T : TypeId) (hB : B ≤ w.heap.size) : (w.alloc (.cells #[] T)).ownsRow B T k (.slice (some ⟨w.heap.size, 0, none⟩) 0 0) 0 (flat E []) :=
 ⟨by simp [flat], .inr ⟨w.heap.size, 0, #[], rfl, hB, heap_new w _, Nat.le_refl _, by unfold maxLen; omega, by simp, by simp [flat]⟩⟩

/-- The state: o: the list that grows, g: where the last element lies. -/
structure AS {α : Type} {k : Nat} (E : Enc α k) (T : TypeId) (wd : World) (B0 : Nat) (a : α) (x : World) (o : Option (Value × List α)) (g : Option Nat) : Prop where
 below : Below B0 wd x
 size : B0 ≤ x.heap.size
 own : ∀ v D, o = some (v, D) → x.ownsRow B0 T k v D.length (flat E D)
 px : ∀ g5, g = some g5 → x.heap[g5]? = some (.cells (E.cells a).toArray T (0, 0))
 ne : ∀ v D g5, o = some (v, D) → g = some g5 → v.ownBlock ≠ some g5

section
variable {α : Type} {k : Nat} {E : Enc α k} {T : TypeId} {wd x : World} {B0 : Nat} {a : α}
theorem AS.start (B0 : Nat) (wd : World) (h : B0 ≤ wd.heap.size) : AS E T wd B0 a wd none none :=
 ⟨Below.refl _ _, h, fun _ _ e => (by cases e), fun _ e => (by cases e), fun _ _ _ e => (by cases e)⟩
theorem AS.lit {g : Option Nat} (h : AS E T wd B0 a x none g) : AS E T wd B0 a (x.alloc (.cells #[] T)) (some (.slice (some ⟨x.heap.size, 0, none⟩) 0 0, [])) g := by
 have hb := Joins.below_alloc1 x (.cells #[] T)
 refine ⟨h.below.trans (hb.mono h.size), Nat.le_trans h.size hb.size, fun v D e => ?_, fun g5 e => (hb.block g5 (lt_of_block (h.px g5 e))).trans (h.px g5 e), fun v D g5 e e2 e3 => ?_⟩
 ·
  cases e
  exact own_none T h.size
 ·
  cases e
  have h1 := lt_of_block (h.px g5 e2)
  simp only [Value.ownBlock, Option.some.injEq] at e3
  omega
theorem AS.one {o : Option (Value × List α)} (h : AS E T wd B0 a x o none) {arr : Array Value} (ha : arr = (E.cells a).toArray) : AS E T wd B0 a (x.alloc (.cells arr T)) o (some x.heap.size) := by
 subst ha
 have hb := Joins.below_alloc1 x (.cells (E.cells a).toArray T)
 refine ⟨h.below.trans (hb.mono h.size), Nat.le_trans h.size hb.size, fun v D e => row_of_heap (h.own v D e) fun b hb2 => hb.block b ((h.own v D e).lt b hb2).2, fun g5 e => ?_, fun v D g5 e e2 e3 => ?_⟩
 ·
  cases e
  exact heap_new x _
 ·
  cases e2
  have := ((h.own v D e).lt _ e3).2
  omega
theorem AS.app {v : Value} {D l : List α} {g : Option Nat} (h : AS E T wd B0 a x (some (v, D)) g) (t ty : TypeId) {z u : Value} {bytes : Nat} (ht : Tryz.prog.underlying t = some (.slice T)) (hi : (Tryz.prog.info? T).map (fun i => (i.zero, i.size, i.bytes)) = some (some z, k, bytes)) (hzs : z.cells.size = k) (hby : bytes ≤ 1000)
  (hu : Rcs E x u l) {D' : List α} (hD : D ++ l = D') (h63 : D'.length ≤ 1000000) :
  ∃ la lc x', (Builtin.append_ #[t, t] ty #[v, u]).run Tryz.prog x = .ok (.slice la D'.length lc) x' ∧ AS E T wd B0 a x' (some (.slice la D'.length lc, D')) g := by
 subst hD
 rw [List.length_append] at h63
 obtain ⟨v', x', h1, ho, hg, hv⟩ := append_recs t T ty ht hi hzs hby (h.own v D rfl) hu h63 h.size
 obtain ⟨la, lc, rfl, _⟩ := OwnRecs.of_row ho
 rw [List.length_append]
 refine ⟨la, lc, x', h1, h.below.grown hg h.size (fun k hk => ((h.own v D rfl).lt k hk).1), Nat.le_trans h.size hg.size, fun v2 D2 e => ?_, fun g5 e => ?_, fun v2 D2 g5 e e2 e3 => ?_⟩
 ·
  cases e
  rw [List.length_append]
  exact ho
 ·
  exact (hg.block g5 (lt_of_block (h.px g5 e)) (fun e2 => h.ne v D g5 rfl e e2.symm)).trans (h.px g5 e)
 ·
  cases e
  rcases hv with e4 | e4
  ·
   exact h.ne v D g5 rfl e2 (e4.symm.trans e3)
  ·
   have h1 := lt_of_block (h.px g5 e2)
   rw [e4, Option.some.injEq] at e3
   omega
theorem AS.rcs {o : Option (Value × List α)} {g5 : Nat} (h : AS E T wd B0 a x o (some g5)) : Rcs E x (.slice (some ⟨g5, 0, none⟩) 1 1) [a] :=
 ⟨_, _, rfl, recs_one (h.px g5 rfl) rfl, fun e => by cases e⟩
theorem AS.row {la : Option Addr} {n lc : Nat} {D : List α} {g : Option Nat} (h : AS E T wd B0 a x (some (.slice la n lc, D)) g) {x' : World} (hx : ∀ b, B0 ≤ b → b < x.heap.size → x'.heap[b]? = x.heap[b]?) : Recs E x' la D.length D := by
 have := row_of_heap (h.own _ _ rfl) (w' := x') fun b hb => hx b ((h.own _ _ rfl).lt b hb).1 ((h.own _ _ rfl).lt b hb).2
 obtain ⟨la', lc', e, hr⟩ := OwnRecs.of_row this
 cases e
 exact hr.recs
/-- .. behind a store below it. -/
theorem AS.set {la : Option Addr} {n lc : Nat} {D : List α} {g : Option Nat} (h : AS E T wd B0 a x (some (.slice la n lc, D)) g) {b o : Nat} {v : Value} (hb : b < B0) : Recs E (x.setCell ⟨b, o, none⟩ v) la D.length D :=
 h.row fun b' h1 _ => Below.heap_setCell _ _ _ _ (by simp; omega)
theorem AS.recs {la : Option Addr} {n lc : Nat} {D : List α} {g : Option Nat} (h : AS E T wd B0 a x (some (.slice la n lc, D)) g) : Recs E x la D.length D := by
 have := h.own _ _ rfl
 obtain ⟨la', lc', e, hr⟩ := OwnRecs.of_row this
 cases e
 exact hr.recs
end
end Go.Proofs.YthabgljdndbphaaGreatDoor
