/- fit.Check's judge, plain: what is decided, the rooms, and which steps are right; and the judge in memory; fit.ranked: its slice begins a block of the call's own; What fit.Legal asks, said group by group; and no permitted packing brings more than the bound. -/
import Derived.Test.YthabgljdndbphaaGreatDoorQPKM09

set_option linter.unusedVariables false
set_option linter.unusedSimpArgs false
namespace Go.Proofs.YthabgljdndbphaaGreatDoor
open Go.RowKit

structure StepT where
 kind : Int
 group : Int
 kids : List Int
 deriving Inhabited

def stepAt (T : List StepT) (n : Nat) : StepT := T.getD n ⟨0, 0, []⟩

/-! ### What is decided -/
def roomF (G : List (Int × Int)) (L : List Int) (p : Int × Int) : List Int := if 0 ≤ p.2 then L.set p.2.toNat (ix L p.2.toNat - gs G p.1.toNat) else L
def usedF (L : List Int) (p : Int × Int) : List Int := if 0 ≤ p.2 then L.set p.2.toNat (ix L p.2.toNat + 1) else L
def valF (G : List (Int × Int)) (v : Int) (p : Int × Int) : Int := if 0 ≤ p.2 then v + gs G p.1.toNat * gv G p.1.toNat else v

def roomS (R : List Int) (G es : List (Int × Int)) : List Int := es.foldl (roomF G) R
def usedS (n : Nat) (es : List (Int × Int)) : List Int := es.foldl usedF (List.replicate n 0)
def valS (G es : List (Int × Int)) : Int := es.foldl (valF G) 0

theorem roomS_push (R : List Int) (G es : List (Int × Int)) (p : Int × Int) : roomS R G (es ++ [p]) = roomF G (roomS R G es) p := by unfold roomS; rw [List.foldl_append]; rfl
theorem usedS_push (n : Nat) (es : List (Int × Int)) (p : Int × Int) : usedS n (es ++ [p]) = usedF (usedS n es) p := by unfold usedS; rw [List.foldl_append]; rfl
theorem valS_push (G es : List (Int × Int)) (p : Int × Int) : valS G (es ++ [p]) = valF G (valS G es) p := by unfold valS; rw [List.foldl_append]; rfl

/-- Every decision is about another group, and names a run or none. -/
def EsOk (n m : Nat) (es : List (Int × Int)) : Prop := ∀ p ∈ es, (0 ≤ p.1 ∧ p.1 < m) ∧ -1 ≤ p.2 ∧ p.2 < n

theorem roomF_length (G : List (Int × Int)) (L : List Int) (p : Int × Int) : (roomF G L p).length = L.length := by unfold roomF; split <;> simp
theorem usedF_length (L : List Int) (p : Int × Int) : (usedF L p).length = L.length := by unfold usedF; split <;> simp

theorem roomS_bounds {G : List (Int × Int)} (hv : ValuesOk G) {n m : Nat} (hm : G.length = m) (hi : Nat → Int) : ∀ (es : List (Int × Int)) (L : List Int) (lo : Nat → Int), EsOk n m es → L.length = n → (∀ r, r < n → lo r ≤ ix L r ∧ ix L r ≤ hi r) →
  (es.foldl (roomF G) L).length = n ∧ ∀ r, r < n → lo r - 12 * es.length ≤ ix (es.foldl (roomF G) L) r ∧ ix (es.foldl (roomF G) L) r ≤ hi r := by
 intro es
 induction es with
 | nil => intro L lo _ hl h; exact ⟨hl, fun r hr => by have := h r hr; simp only [List.foldl_nil, List.length_nil]; omega⟩
 | cons p es ih =>
  intro L lo ho hl h
  have hp := ho p (by simp)
  have hg := (hv p.1.toNat (by omega)).1
  have i := ih (roomF G L p) (fun r => lo r - 12) (fun q hq => ho q (by simp [hq])) (by rw [roomF_length, hl]) (fun r hr => by
   have hr' := h r hr
   unfold roomF
   split
   ·
    rw [ix_set _ _ _ _ (by omega)]
    split
    ·
     subst_vars; omega
    ·
     omega
   ·
    omega)
  rw [List.foldl_cons, List.length_cons]
  exact ⟨i.1, fun r hr => by have := i.2 r hr; omega⟩

theorem usedS_bounds {n m : Nat} : ∀ (es : List (Int × Int)) (L : List Int) (hi : Nat → Int), EsOk n m es → L.length = n → (∀ r, r < n → 0 ≤ ix L r ∧ ix L r ≤ hi r) →
  (es.foldl usedF L).length = n ∧ ∀ r, r < n → 0 ≤ ix (es.foldl usedF L) r ∧ ix (es.foldl usedF L) r ≤ hi r + es.length := by
 intro es
 induction es with
 | nil => intro L hi _ hl h; exact ⟨hl, fun r hr => by have := h r hr; simp only [List.foldl_nil, List.length_nil]; omega⟩
 | cons p es ih =>
  intro L hi ho hl h
  have hp := ho p (by simp)
  have i := ih (usedF L p) (fun r => hi r + 1) (fun q hq => ho q (by simp [hq])) (by rw [usedF_length, hl]) (fun r hr => by
   have hr' := h r hr
   unfold usedF
   split
   ·
    rw [ix_set _ _ _ _ (by omega)]
    split
    ·
     subst_vars; omega
    ·
     omega
   ·
    omega)
  rw [List.foldl_cons, List.length_cons]
  exact ⟨i.1, fun r hr => by have := i.2 r hr; omega⟩

theorem valS_bounds {G : List (Int × Int)} (hv : ValuesOk G) {n m : Nat} (hm : G.length = m) : ∀ (es : List (Int × Int)) (v : Int), EsOk n m es → 0 ≤ v → 0 ≤ es.foldl (valF G) v ∧ es.foldl (valF G) v ≤ v + 12000000 * es.length := by
 intro es
 induction es with
 | nil => intro v _ h; simp; omega
 | cons p es ih =>
  intro v ho h
  have hp := ho p (by simp)
  have hg := hv p.1.toNat (by omega)
  have h1 : gs G p.1.toNat * gv G p.1.toNat ≤ 12 * gv G p.1.toNat := Int.mul_le_mul_of_nonneg_right hg.1.2 hg.2.1
  have h0 : 0 ≤ gs G p.1.toNat * gv G p.1.toNat := Int.mul_nonneg (by omega) (by omega)
  have hs : v ≤ valF G v p ∧ valF G v p ≤ v + 12000000 := by unfold valF; split <;> omega
  have i := ih (valF G v p) (fun q hq => ho q (by simp [hq])) (by omega)
  rw [List.foldl_cons, List.length_cons]
  omega

/-! ### Which steps are right -/
def decidedB (es : List (Int × Int)) (x : Int) : Bool := (findI x es 0).isSome

def leftS (L : List Int) : Int := L.foldr (fun x s => max x 0 + s) 0

/-- A step of kind 'bound'. -/
def boundOk (R : List Int) (G es : List (Int × Int)) (most : Int) : Bool := decide (valS G es + fillS G (decidedB es) (leftS (roomS R G es)) (rankedL G) ≤ most)

/-- A step of kind 'fit'. -/
def fitsOk (single : Bool) (R : List Int) (G es : List (Int × Int)) (r : Int) : Bool :=
 if r < 0 ∨ R.length ≤ r then false
 else decide (ix (roomS R G es) r.toNat < 0) || (single && decide (es.length = G.length) && decide (0 < ix (usedS R.length es) r.toNat) && decide (ix (roomS R G es) r.toNat = 1))

/-- The kids of a step, from run r on. -/
def kidsL (go : List (Int × Int) → List Bool → Nat → Bool × List Bool) (es : List (Int × Int)) (g : Int) (n k nR : Nat) : Nat → List Int → List Bool → Bool × List Bool
 | _, [], seen => (true, seen)
 | r, x :: rest, seen =>
  if x ≤ n ∨ k ≤ x then (false, seen)
  else
   let q := go (es ++ [(g, if r = nR then -1 else (r : Int))]) seen x.toNat
   if q.1 then kidsL go es g n k nR (r + 1) rest q.2 else (false, q.2)

/-- Whether a step is right, and which steps were seen then. -/
def rightS (single : Bool) (R : List Int) (G : List (Int × Int)) (most : Int) (T : List StepT) : Nat → List (Int × Int) → List Bool → Nat → Bool × List Bool
 | 0, _, seen, _ => (false, seen)
 | f + 1, es, seen, n =>
  if bx seen n = true ∨ ¬ ((stepAt T n).kind = 1 ∨ (stepAt T n).kind = 2 ∨ (stepAt T n).kind = 3) then (false, seen)
  else if (stepAt T n).kind = 1 then
   if (stepAt T n).group < 0 ∨ G.length ≤ (stepAt T n).group ∨ (stepAt T n).kids.length ≠ R.length + 1 ∨ decidedB es (stepAt T n).group = true then (false, seen.set n true)
   else kidsL (rightS single R G most T f) es (stepAt T n).group n T.length R.length 0 (stepAt T n).kids (seen.set n true)
  else if (stepAt T n).kind = 2 then (boundOk R G es most, seen.set n true)
  else (fitsOk single R G es (stepAt T n).group, seen.set n true)

/-- What fit.Check returns. -/
def checkS (single : Bool) (R : List Int) (G : List (Int × Int)) (most : Int) (T : List StepT) : Bool :=
 (rightS single R G most T T.length [] (List.replicate T.length false) 0).1

/-! ### In memory -/
/-- A slice of steps. -/
def Steps (w : World) (pa : Option Addr) (k : Nat) (T : List StepT) : Prop :=
 T.length = k ∧ ∀ n, n < k → ∃ b o ka kc, pa = some ⟨b, o, none⟩ ∧ w.cell? ⟨b, o + n * 3, none⟩ = some (.int .i64 (stepAt T n).kind) ∧ w.cell? ⟨b, o + n * 3 + 1, none⟩ = some (.int .i64 (stepAt T n).group) ∧
  w.cell? ⟨b, o + n * 3 + 2, none⟩ = some (.slice ka (stepAt T n).kids.length kc) ∧ Ints w ka (stepAt T n).kids.length (stepAt T n).kids

theorem Steps.below {w w' : World} {pa : Option Addr} {k : Nat} {T : List StepT} (h : Steps w pa k T) (hb : Below w.heap.size w w') : Steps w' pa k T := by
 refine ⟨h.1, fun n hn => ?_⟩
 obtain ⟨b, o, ka, kc, e, c0, c1, c2, hI⟩ := h.2 n hn
 exact ⟨b, o, ka, kc, e, Below.cell_of hb c0, Below.cell_of hb c1, Below.cell_of hb c2, hI.below hb⟩

/-- Where the judge lies, and what does not change of it. -/
structure JA where
 (jb mb rb ub sb kb : Nat)
 (la oa ra ga pa : Option Addr)
 (lc oc n c m d k pc : Nat)
 (single : Bool)
 (most : Int)

def JA.cells (J : JA) (v : Int) : Array Value := #[.slice J.ra J.n J.c, .slice J.ga J.m J.d, .bool J.single, .int .i64 J.most, .slice J.pa J.k J.pc, .slice (some ⟨J.sb, 0, none⟩) J.k J.k, .slice J.oa J.m J.oc, .map (some J.mb),
 .slice J.la J.n J.lc, .slice (some ⟨J.ub, 0, none⟩) J.n J.n, .int .i64 v, .map (some J.kb)]

/-- The kinds of steps. -/
def KMap (w : World) (kb jb : Nat) : Prop :=
 ∃ arr clock, w.heap[kb]? = some (.map arr clock) ∧ arr.toList.map (fun e => (e.key, e.val)) =
  [(.int .i64 1, .func (.func 35) #[.pointer (some ⟨jb, 0, none⟩)] #[]), (.int .i64 2, .func (.func 36) #[.pointer (some ⟨jb, 0, none⟩)] #[]), (.int .i64 3, .func (.func 37) #[.pointer (some ⟨jb, 0, none⟩)] #[])]

/-- The judge in memory. -/
structure JGen (w : World) (J : JA) (v : Int) (es : List (Int × Int)) (room used : List Int) (seen : List Bool) : Prop where
 box : Box w J.jb 83 (J.cells v)
 map : IMap w J.mb es
 room : 0 < J.n → J.la = some ⟨J.rb, 0, none⟩ ∧ IntRow w J.rb 3 room
 used : IntRow w J.ub 3 used
 seen : BoolRow w J.sb 4 seen
 kinds : KMap w J.kb J.jb
 rlt : J.rb < w.heap.size

def JMem (w : World) (J : JA) (R : List Int) (G es : List (Int × Int)) (seen : List Bool) : Prop := JGen w J (valS G es) es (roomS R G es) (usedS J.n es) seen

/-- The judge's blocks are different ones, from B on. -/
structure JOk (J : JA) (B : Nat) : Prop where
 ge : B ≤ J.jb ∧ B ≤ J.mb ∧ B ≤ J.rb ∧ B ≤ J.ub ∧ B ≤ J.sb ∧ B ≤ J.kb
 ne : J.jb ≠ J.mb ∧ J.jb ≠ J.rb ∧ J.jb ≠ J.ub ∧ J.jb ≠ J.sb ∧ J.jb ≠ J.kb ∧ J.mb ≠ J.rb ∧ J.mb ≠ J.ub ∧ J.mb ≠ J.sb ∧ J.mb ≠ J.kb ∧ J.rb ≠ J.ub ∧ J.rb ≠ J.sb ∧ J.rb ≠ J.kb ∧ J.ub ≠ J.sb ∧ J.ub ≠ J.kb ∧ J.sb ≠ J.kb
 ord : ∀ q, J.oa = some q → q.block ≠ J.jb ∧ q.block ≠ J.mb ∧ q.block ≠ J.rb ∧ q.block ≠ J.ub ∧ q.block ≠ J.sb

/-- All but the judge's blocks is as it was. -/
structure JFrame (J : JA) (w w' : World) : Prop where
 below : Below 0 w w'
 block : ∀ q, q < w.heap.size → q ≠ J.jb → q ≠ J.mb → q ≠ J.rb → q ≠ J.ub → q ≠ J.sb → w'.heap[q]? = w.heap[q]?

theorem JFrame.refl (J : JA) (w : World) : JFrame J w w := ⟨Below.refl _ _, fun _ _ _ _ _ _ _ => rfl⟩

theorem JFrame.trans {J : JA} {a b c : World} (h : JFrame J a b) (k : JFrame J b c) : JFrame J a c :=
 ⟨h.below.trans k.below, fun q hq h1 h2 h3 h4 h5 => (k.block q (Nat.lt_of_lt_of_le hq h.below.size) h1 h2 h3 h4 h5).trans (h.block q hq h1 h2 h3 h4 h5)⟩

theorem JFrame.of_below {J : JA} {w w' : World} (h : Below w.heap.size w w') : JFrame J w w' := ⟨h.mono (Nat.zero_le _), fun q hq _ _ _ _ _ => h.block q hq⟩

theorem JFrame.to_below {J : JA} {B : Nat} {w w' : World} (h : JFrame J w w') (hj : JOk J B) (hB : B ≤ w.heap.size) : Below B w w' :=
 ⟨h.below.os, h.below.tape, h.below.output, h.below.size, fun q hq => h.block q (by omega) (by have := hj.ge; omega) (by have := hj.ge; omega) (by have := hj.ge; omega) (by have := hj.ge; omega) (by have := hj.ge; omega)⟩

theorem Ints.heap {w w' : World} {ra : Option Addr} {n : Nat} {xs : List Int} (h : Ints w ra n xs) (e : ∀ q, ra = some q → w'.heap[q.block]? = w.heap[q.block]?) : Ints w' ra n xs :=
 ⟨h.1, fun k hk => by
  obtain ⟨b, o, ea, c⟩ := h.2 k hk
  refine ⟨b, o, ea, ?_⟩
  rw [World.cell?_of_block (w := w) (a := ⟨b, o + k, none⟩) (show w'.heap[b]? = w.heap[b]? from e ⟨b, o, none⟩ ea)]; exact c⟩

theorem KMap.of_heap {w w' : World} {kb jb : Nat} (h : KMap w kb jb) (e : w'.heap[kb]? = w.heap[kb]?) : KMap w' kb jb := by
 obtain ⟨arr, clock, h1, h2⟩ := h
 exact ⟨arr, clock, by rw [e]; exact h1, h2⟩

/-- A step behind which the heap's old blocks are as they were. -/
theorem JGen.below {w w' : World} {J : JA} {v : Int} {es : List (Int × Int)} {room used : List Int} {seen : List Bool} (h : JGen w J v es room used seen) (hb : Below w.heap.size w w') : JGen w' J v es room used seen :=
 ⟨h.box.below hb, h.map.below hb, fun hn => ⟨(h.room hn).1, (h.room hn).2.of_heap (hb.block _ (h.room hn).2.lt)⟩, h.used.of_heap (hb.block _ h.used.lt), h.seen.of_heap (hb.block _ h.seen.lt),
  h.kinds.of_heap (by obtain ⟨arr, clock, h1, _⟩ := h.kinds; exact hb.block _ (lt_of_block h1)), Nat.lt_of_lt_of_le h.rlt hb.size⟩

section
variable {w : World} {J : JA} {B : Nat} {v : Int} {es : List (Int × Int)} {room used : List Int} {seen : List Bool}

theorem JMem.below {w' : World} {R : List Int} {G : List (Int × Int)} (h : JMem w J R G es seen) (hb : Below w.heap.size w w') : JMem w' J R G es seen := JGen.below h hb

theorem frame_set (q k : Nat) (u : Value) (hq : q = J.jb ∨ q = J.mb ∨ q = J.rb ∨ q = J.ub ∨ q = J.sb) : JFrame J w (w.setCell ⟨q, k, none⟩ u) :=
 ⟨⟨rfl, rfl, rfl, by simp [World.setCell], fun i hi => absurd hi (by omega)⟩, fun i _ h1 h2 h3 h4 h5 => heap_set i (by rcases hq with e | e | e | e | e <;> rw [e] <;> assumption)⟩

theorem JGen.setVal (h : JGen w J v es room used seen) (hj : JOk J B) (u : Int) : JGen (w.setCell ⟨J.jb, 10, none⟩ (.int .i64 u)) J u es room used seen := by
 have ne := hj.ne
 refine ⟨h.box.set 10 (.int .i64 u), h.map.of_heap (heap_set _ (by omega)), fun hn => ⟨(h.room hn).1, (h.room hn).2.of_heap (heap_set _ (by omega))⟩, h.used.of_heap (heap_set _ (by omega)), h.seen.of_heap (heap_set _ (by omega)), h.kinds.of_heap (heap_set _ (by omega)), by simpa [World.setCell] using h.rlt⟩

theorem JGen.setRoom (h : JGen w J v es room used seen) (hj : JOk J B) (_hn : 0 < J.n) (r : Nat) (hr : r < room.length) (u : Int) : JGen (w.setCell ⟨J.rb, r, none⟩ (.int .i64 u)) J v es (room.set r u) used seen := by
 have ne := hj.ne
 refine ⟨h.box.of_heap (heap_set _ (by omega)), h.map.of_heap (heap_set _ (by omega)), fun hn => ⟨(h.room hn).1, (h.room hn).2.set r hr u⟩, h.used.of_heap (heap_set _ (by omega)), h.seen.of_heap (heap_set _ (by omega)), h.kinds.of_heap (heap_set _ (by omega)), by simpa [World.setCell] using h.rlt⟩

theorem JGen.setUsed (h : JGen w J v es room used seen) (hj : JOk J B) (r : Nat) (hr : r < used.length) (u : Int) : JGen (w.setCell ⟨J.ub, r, none⟩ (.int .i64 u)) J v es room (used.set r u) seen := by
 have ne := hj.ne
 refine ⟨h.box.of_heap (heap_set _ (by omega)), h.map.of_heap (heap_set _ (by omega)), fun hn => ⟨(h.room hn).1, (h.room hn).2.of_heap (heap_set _ (by omega))⟩, h.used.set r hr u, h.seen.of_heap (heap_set _ (by omega)), h.kinds.of_heap (heap_set _ (by omega)), by simpa [World.setCell] using h.rlt⟩

theorem JGen.setSeen (h : JGen w J v es room used seen) (hj : JOk J B) (r : Nat) (hr : r < seen.length) (u : Bool) : JGen (w.setCell ⟨J.sb, r, none⟩ (.bool u)) J v es room used (seen.set r u) := by
 have ne := hj.ne
 refine ⟨h.box.of_heap (heap_set _ (by omega)), h.map.of_heap (heap_set _ (by omega)), fun hn => ⟨(h.room hn).1, (h.room hn).2.of_heap (heap_set _ (by omega))⟩, h.used.of_heap (heap_set _ (by omega)), h.seen.set r hr u, h.kinds.of_heap (heap_set _ (by omega)), by simpa [World.setCell] using h.rlt⟩

theorem JGen.setMap {w' : World} {es' : List (Int × Int)} (h : JGen w J v es room used seen) (hj : JOk J B) (hm : IMap w' J.mb es') (e : ∀ q, q ≠ J.mb → w'.heap[q]? = w.heap[q]?) (e2 : w.heap.size ≤ w'.heap.size) : JGen w' J v es' room used seen := by
 have ne := hj.ne
 refine ⟨h.box.of_heap (e _ (by omega)), hm, fun hn => ⟨(h.room hn).1, (h.room hn).2.of_heap (e _ (by omega))⟩, h.used.of_heap (e _ (by omega)), h.seen.of_heap (e _ (by omega)), h.kinds.of_heap (e _ (by omega)), Nat.lt_of_lt_of_le h.rlt e2⟩

/-- A new decision is put into the map. -/
theorem JGen.put (h : JGen w J v es room used seen) (hj : JOk J B) (g r : Int) (hn : ∀ p ∈ es, p.1 ≠ g) :
  ∃ w', (Instr.mapUpdate 79 (.map (some J.mb)) (.int .i64 g) (.int .i64 r)).run Tryz.prog w = .ok () w' ∧ JGen w' J v (es ++ [(g, r)]) room used seen ∧ JFrame J w w' := by
 obtain ⟨o, hr, hm⟩ := update_run h.map g r hn
 have e : ∀ q, q ≠ J.mb → ({ w with heap := w.heap.setIfInBounds J.mb o } : World).heap[q]? = w.heap[q]? := fun q hq => by
  show (w.heap.setIfInBounds J.mb o)[q]? = _
  rw [Array.getElem?_setIfInBounds, if_neg (by omega)]
 exact ⟨_, hr, h.setMap hj hm e (by simp), ⟨⟨rfl, rfl, rfl, by simp, fun i hi => absurd hi (by omega)⟩, fun q _ _ h2 _ _ _ => e q h2⟩⟩

/-- The last decision is struck. -/
theorem JGen.strike {g r : Int} (h : JGen w J v (es ++ [(g, r)]) room used seen) (hj : JOk J B) (hn : ∀ p ∈ es, p.1 ≠ g) :
  ∃ w', (∀ T, (Builtin.delete_ #[79, 3] T #[.map (some J.mb), .int .i64 g]).run Tryz.prog w = .ok (.tuple #[]) w') ∧ JGen w' J v es room used seen ∧ JFrame J w w' := by
 obtain ⟨o, hr, hm⟩ := delete_run h.map hn
 have e : ∀ q, q ≠ J.mb → ({ w with heap := w.heap.setIfInBounds J.mb o } : World).heap[q]? = w.heap[q]? := fun q hq => by
  show (w.heap.setIfInBounds J.mb o)[q]? = _
  rw [Array.getElem?_setIfInBounds, if_neg (by omega)]
 exact ⟨_, hr, h.setMap hj hm e (by simp), ⟨⟨rfl, rfl, rfl, by simp, fun i hi => absurd hi (by omega)⟩, fun q _ _ h2 _ _ _ => e q h2⟩⟩
end
end Go.Proofs.YthabgljdndbphaaGreatDoor

namespace Go.Proofs.YthabgljdndbphaaGreatDoor
open Go.RowKit Go.IntWalk

theorem ranked_own (ra : Option Addr) (n c : Nat) (G : List (Int × Int)) (w : World) (hn : n ≤ 4000) (hG : Pairs w ra n G) (hv : ValuesOk G) :
  Calls Tryz.prog 33 #[.slice ra n c] w fun e w' => e = .returned (.slice (some ⟨w.heap.size + 1, 0, none⟩) n n) ∧ Below w.heap.size w w' ∧ IntRow w' (w.heap.size + 1) 3 (rankedL G) := by
 obtain ⟨arr, hs, hz, hmk⟩ := make_ints n hn
 have hrow0 := IntRow.made (w := w.alloc (.cells #[.slice ra n c] 23)) (T := 3) (g := w.heap.size + 1) (by simp) hs hz
 have HROW := Lib.hid hrow0
 have HG := Lib.hid hG; have HV := Lib.hid hv
 clear hrow0 hz hs hG hv
 go_enter Tryz.func33, Tryz.ntmps33
 go_wp2
 go_loopw [4, 10] (fun _ v wr => ∃ (i : Nat) (D : List Int), v = .int .i64 i ∧ i ≤ n ∧ Hid (D.length = n) ∧ Hid (∀ k, k < i → ix D k = k) ∧ IntRow wr (w.heap.size + 1) 3 D ∧ Below w.heap.size w wr ∧ wr.cell? ⟨w.heap.size, 0, none⟩ = some (.slice ra n c))
  (fun _ v _ => n - (intOf v).toNat)
 case atStart => exact ⟨0, _, rfl, Nat.zero_le _, List.length_replicate, by simp [Hid], HROW.out, (((Below.refl _ _).alloc (Nat.le_refl _) _).alloc (by simp) _), by simp [go_sem]⟩
 case round =>
  clear HROW hmk
  obtain ⟨i, D, rfl, hi, H1, H2, hr, hb, hbox⟩ := hrel
  by_cases hlt : i < n
  ·
   have c1 := hr.cell i (by rw [H1.out]; exact hlt)
   have f1 := hr.free i
   have HS := Lib.hid (hr.set i (by rw [H1.out]; exact hlt) i)
   clear hr
   go_wp2
   go_roundw
   case rel => exact ⟨i + 1, _, by go_num, by omega, by show _ = _; rw [List.length_set]; exact H1.out, by
    intro k hk
    rw [ix_set _ _ _ _ (by rw [H1.out]; exact hlt)]
    by_cases h : i = k
    ·
     rw [if_pos h, h]
    ·
     rw [if_neg h]; exact H2.out k (by omega), HS.out, hb.setCell (by simp) _, by simpa [go_sem] using hbox⟩
   case measure => simp [intOf]; omega
  ·
   have hD : D = idx n := by
    apply list_ext_ix
    ·
     rw [H1.out, idx_length]
    ·
     intro k hk; rw [H1.out] at hk; rw [ix_idx n k hk]; exact H2.out k (by omega)
   subst hD
   have hN : n = G.length := HG.out.1.symm
   have hcmp : CmpAt 53 #[.pointer (some ⟨w.heap.size, 0, none⟩)] (fun x y => gv G y.toNat - gv G x.toNat) (fun x => 0 ≤ x ∧ x < n) (w.heap.size + 1) wr := by
    intro x y w' hx hy hg
    have hbx : w'.cell? ⟨w.heap.size, 0, none⟩ = some (.slice ra n c) := hg.cell hbox (by simp)
    have hb2 : Below w.heap.size w w' := hb.grown hg hb.size (fun k hk => by simp at hk; omega)
    simpa using ranked1_any w.heap.size ra n c G x y w' hbx (HG.out.below hb2) HV.out hx hy
   have HS := Lib.hid (sortStable_any 53 #[.pointer (some ⟨w.heap.size, 0, none⟩)] _ _ (byValue G) (w.heap.size + 1) 3 n n (idx n) wr enter_ranked1 hcmp (byValue_trans G) (idx_length n).symm hn hr (fun x hx => (mem_idx n x).1 hx) (by
    refine List.Pairwise.imp ?_ (idx_lt n)
    intro u v huv
    unfold Ok byValue
    dsimp only
    omega))
   clear hcmp hr hbox H1 H2
   have HN := Lib.hid hN; clear hN
   go_wp2_with fail
   refine HS.out.mono ?_
   rintro e w1 ⟨rfl, hg, D', hr', hp, ho⟩
   have hb2 : Below w.heap.size w w1 := hb.grown hg hb.size (fun k hk => by simp at hk; omega)
   have FIN : Hid (True ∧ Below w.heap.size w w1 ∧ IntRow w1 (w.heap.size + 1) 3 (rankedL G)) := by
    have hrk : Ranked G D' := ⟨by rw [HN.out] at hp; exact hp, ho⟩
    rw [hrk.eq] at hr'
    exact ⟨trivial, hb2, hr'⟩
   clear hr' hp ho hg hb2 hb HS
   go_wp2
   go_ret
   exact ⟨rfl, FIN.out.2⟩
end Go.Proofs.YthabgljdndbphaaGreatDoor

namespace Go.Proofs.YthabgljdndbphaaGreatDoor
open Go.RowKit

/-! ### What a choice of amounts brings -/
def amt (a : Int → Int) : List Int → Int
 | [] => 0
 | x :: O => a x + amt a O

def amtV (G : List (Int × Int)) (a : Int → Int) : List Int → Int
 | [] => 0
 | x :: O => a x * gv G x.toNat + amtV G a O

theorem amt_append (a : Int → Int) (A B : List Int) : amt a (A ++ B) = amt a A + amt a B := by
 induction A with
 | nil => simp [amt]
 | cons x A ih => rw [List.cons_append, amt, amt, ih]; omega

theorem amtV_append (G : List (Int × Int)) (a : Int → Int) (A B : List Int) : amtV G a (A ++ B) = amtV G a A + amtV G a B := by
 induction A with
 | nil => simp [amtV]
 | cons x A ih => rw [List.cons_append, amtV, amtV, ih]; omega



theorem amt_nonneg (a : Int → Int) : ∀ (O : List Int), (∀ x ∈ O, 0 ≤ a x) → 0 ≤ amt a O := by
 intro O
 induction O with
 | nil => intro _; simp [amt]
 | cons x O ih => intro h; rw [amt]; have := h x (by simp); have := ih (fun y hy => h y (by simp [hy])); omega



/-! ### The rows, group by group -/
/-- What sits in a run, of the first groups, in their order. -/
def rowL (G S : List (Int × Int)) (r : Nat) : Nat → List (Int × Int)
 | 0 => []
 | i + 1 => if gs S i = (r : Int) then rowL G S r i ++ [(gs G i, gv S i)] else rowL G S r i

/-- A spot is not taken, or it is a place of its run. -/
def SpotOk (R : List Int) (G S : List (Int × Int)) (i : Nat) : Prop := (gs S i = -1 ∧ gv S i = 0) ∨ ¬ badSpot R (gs G i) (gs S i) (gv S i)

/-- The places that a group takes. -/
def taken (G S : List (Int × Int)) (x : Int) : Int := if gs S x.toNat = -1 then 0 else gs G x.toNat

theorem idx_succ (n : Nat) : idx (n + 1) = idx n ++ [(n : Int)] := by simp [idx, List.range_succ]

theorem placed_ok (R : List Int) (G S : List (Int × Int)) : ∀ i, (∀ k, k < i → SpotOk R G S k) → ∃ q, placed R G S i = some q ∧ (∀ r, r < R.length → qx q.1 r = rowL G S r i) ∧ q.2 = amtV G (taken G S) (idx i) := by
 intro i
 induction i with
 | zero =>
  intro _
  refine ⟨_, rfl, fun r hr => ?_, rfl⟩
  simp [qx, List.getD, hr, rowL]
 | succ i ih =>
  intro h
  obtain ⟨q, hq, h1, h2⟩ := ih fun k hk => h k (by omega)
  have hl := placed_length R G S i q hq
  rw [placed, hq, Option.bind_some, idx_succ, amtV_append]
  have hone : amtV G (taken G S) [(i : Int)] = (if gs S i = -1 then 0 else gs G i) * gv G i := by
   rw [amtV, amtV, taken, Int.toNat_natCast]; omega
  rw [hone]
  rcases h i (by omega) with hs | hb
  ·
   rw [if_pos hs]
   refine ⟨q, rfl, fun r hr => ?_, ?_⟩
   ·
    rw [rowL, if_neg (by omega)]; exact h1 r hr
   ·
    rw [if_pos hs.1, h2]; omega
  ·
   unfold badSpot at hb
   rw [if_neg (by omega), if_neg (by unfold badSpot; exact hb)]
   refine ⟨_, rfl, fun r hr => ?_, ?_⟩
   ·
    dsimp only
    rw [qx_set _ _ _ _ (by rw [hl]; omega), rowL]
    by_cases e : gs S i = (r : Int)
    ·
     rw [if_pos (by omega), if_pos e, show (gs S i).toNat = r from by omega, h1 r hr]
    ·
     rw [if_neg (by omega), if_neg e]; exact h1 r hr
   ·
    dsimp only
    rw [if_neg (by omega), h2]

theorem placed_spot (R : List Int) (G S : List (Int × Int)) : ∀ i q, placed R G S i = some q → ∀ k, k < i → SpotOk R G S k := by
 intro i
 induction i with
 | zero => intro _ _ k hk; omega
 | succ i ih =>
  intro q h k hk
  rw [placed] at h
  cases hp : placed R G S i with
  | none => rw [hp] at h; simp at h
  | some p =>
   rw [hp, Option.bind_some] at h
   by_cases hki : k = i
   ·
    subst hki
    unfold SpotOk
    split at h
    ·
     rename_i hs; exact Or.inl hs
    ·
     split at h
     ·
      simp at h
     ·
      rename_i hb; exact Or.inr hb
   ·
    exact ih p hp k (by omega)

/-- fit.Legal, group by group. -/
theorem legal_iff (single : Bool) (R : List Int) (G S : List (Int × Int)) (V : Int) : LegalP single R G S V ↔ validS R G = true ∧ S.length = G.length ∧ (∀ k, k < G.length → SpotOk R G S k) ∧
  (∀ r, r < R.length → RowLegal single (ix R r) (rowL G S r G.length)) ∧ amtV G (taken G S) (idx G.length) = V := by
 constructor
 ·
  rintro ⟨h1, h2, q, h3, h4, h5⟩
  rw [h2] at h3
  have hs := placed_spot R G S _ q h3
  obtain ⟨q', e1, e2, e3⟩ := placed_ok R G S _ hs
  rw [h3] at e1
  obtain rfl : q = q' := by simpa using e1
  exact ⟨h1, h2, hs, fun r hr => by rw [← e2 r hr]; exact h4 r hr, by rw [← e3]; exact h5⟩
 ·
  rintro ⟨h1, h2, h3, h4, h5⟩
  obtain ⟨q, e1, e2, e3⟩ := placed_ok R G S _ h3
  exact ⟨h1, h2, q, by rw [h2]; exact e1, fun r hr => by rw [e2 r hr]; exact h4 r hr, by rw [e3]; exact h5⟩

/-! ### No more than the bound -/
def rowSum : List (Int × Int) → Int
 | [] => 0
 | x :: L => x.1 + rowSum L

theorem rowSum_append (A B : List (Int × Int)) : rowSum (A ++ B) = rowSum A + rowSum B := by
 induction A with
 | nil => simp [rowSum]
 | cons x A ih => rw [List.cons_append, rowSum, rowSum, ih]; omega

theorem rowSum_perm {A B : List (Int × Int)} (h : A.Perm B) : rowSum A = rowSum B := by
 induction h with
 | nil => rfl
 | cons x _ ih => rw [rowSum, rowSum, ih]
 | swap x y l => rw [rowSum, rowSum, rowSum, rowSum]; omega
 | trans _ _ h1 h2 => rw [h1, h2]

theorem chain_end (single : Bool) (n : Int) : ∀ (L : List (Int × Int)) (a e : Int), (∀ x ∈ L, x.2 + x.1 ≤ n) → a ≤ n → chain single a L = some e → a + rowSum L ≤ e ∧ e ≤ n := by
 intro L
 induction L with
 | nil => intro a e _ ha h; simp [chain] at h; simp [rowSum]; omega
 | cons x L ih =>
  intro a e hx ha h
  rw [chain] at h
  split at h
  ·
   simp at h
  ·
   have h1 := hx x (by simp)
   have := ih _ e (fun y hy => hx y (by simp [hy])) h1 h
   rw [rowSum]; omega

theorem rowLegal_sum {single : Bool} {n : Int} {L : List (Int × Int)} (hn : 0 ≤ n) (hx : ∀ x ∈ L, x.2 + x.1 ≤ n) (h : RowLegal single n L) : rowSum L ≤ n := by
 obtain ⟨L', hp, _, ho⟩ := h
 unfold rowOk at ho
 cases hc : chain single 0 L' with
 | none => rw [hc] at ho; simp at ho
 | some e =>
  have := chain_end single n L' 0 e (fun x hx' => hx x (hp.mem_iff.mp hx')) hn hc
  rw [rowSum_perm hp] at this
  omega

/-- The sums of the rows 0 .. n-1. -/
def sumRows (f : Nat → Int) : Nat → Int
 | 0 => 0
 | n + 1 => sumRows f n + f n

theorem sumRows_congr (f g : Nat → Int) : ∀ n, (∀ k, k < n → f k = g k) → sumRows f n = sumRows g n := by
 intro n
 induction n with
 | zero => intro _; rfl
 | succ n ih => intro h; rw [sumRows, sumRows, ih (fun k hk => h k (by omega)), h n (by omega)]






theorem rowL_mem (G S : List (Int × Int)) (r : Nat) : ∀ n x, x ∈ rowL G S r n → ∃ k, k < n ∧ gs S k = (r : Int) ∧ x = (gs G k, gv S k) := by
 intro n
 induction n with
 | zero => intro x hx; simp [rowL] at hx
 | succ n ih =>
  intro x hx
  rw [rowL] at hx
  split at hx
  ·
   rename_i e
   rcases List.mem_append.mp hx with hx | hx
   ·
    obtain ⟨k, a, b⟩ := ih x hx; exact ⟨k, by omega, b⟩
   ·
    exact ⟨n, by omega, e, by simpa using hx⟩
  ·
   obtain ⟨k, a, b⟩ := ih x hx; exact ⟨k, by omega, b⟩

end Go.Proofs.YthabgljdndbphaaGreatDoor
