/- hall: points as keys; a map from points to lists of numbers; hall: several: which rows share a point: plain; hall: several$2: what stays; what it works on. -/
import Derived.Test.YtmcdhggnpfhlmaaGreatQHMR08
import Derived.Test.YtmcdhggnpfhlmaaGreatQHMR11
import Derived.Test.YtmcdhggnpfhlmaaGreatQHMR12
import Derived.Maps.Keyed
import Derived.Maps.Own
import Derived.Maps.OwnSet
import Derived.Maps.Views
import Derived.Maps.RangeWalk
import Derived.DeepKeys4
import Derived.WideKeyEntry
import Derived.Lib.SlicesCompact

set_option linter.unusedVariables false
set_option linter.unusedSimpArgs false
namespace Go.Proofs.YtmcdhggnpfhlmaaGreat
open Go.RowKit Go.IntWalk Go.Maps Go.WideMaps Go.ChangeMaps Go.MapKept Go.WideElems
set_option linter.unusedSimpArgs false
set_option linter.unusedVariables false

abbrev PtT := Int × Int
def ptV (p : PtT) : Value := .agg #[.int .i64 p.1, .int .i64 p.2]
def ptL (p : PtT) : Lit := .string (keyBytes [.int .i64 p.1, .int .i64 p.2])
def WfP (p : PtT) : Prop := (Lit.int .i64 p.1).wf = true ∧ (Lit.int .i64 p.2).wf = true

theorem laidOut : laidOutB Tryz.prog = true := by kernel_rfl
theorem lawP : Keyed Tryz.prog 23 := Keyed.of_law (deep_law_laid laidOut (m := 20) (by decide) (by decide +kernel) (by kernel_rfl) (by kernel_rfl))

theorem key_pt (p : PtT) (h : WfP p) : keyOf Tryz.prog 23 (ptV p) = some (ptL p) := by
 have h1 := h.1
 have h2 := h.2
 have hkt : Tryz.prog.keyType 23 = true := by kernel_rfl
 have ho : Tryz.prog.cellsOf 23 = 2 := by kernel_rfl
 have hi : Tryz.prog.cellsOf 3 = 1 := by kernel_rfl
 obtain ⟨m, hm⟩ : ∃ m, Tryz.prog.types.size = m + 1 := ⟨_, rfl⟩
 unfold keyOf ptV ptL
 simp only [Tryz.underlying23]
 rw [if_pos (by simp [hkt, Value.formed, Tryz.underlying23, ho]), hm]
 unfold Program.keyLits
 simp only [Tryz.underlying23, Value.cells]
 simp [ho, hi, Program.keyLits, Tryz.underlying3, h1, h2]

theorem ptL_inj {a b : PtT} (ha : WfP a) (hb : WfP b) (h : ptL a = ptL b) : a = b := by
 have := lawP.inj (key_pt a ha) (by rw [h]; exact key_pt b hb)
 unfold ptV at this
 simp only [Value.agg.injEq, Array.mk.injEq, List.cons.injEq, Value.int.injEq, true_and, and_true] at this
 exact Prod.ext this.1 this.2
theorem ptL_is (a : PtT) : WideAt.IsKeyLit (ptL a) := by unfold ptL; trivial

/-- What a map of lists holds. -/
structure TakD (D : DataW Value) (f : PtT → Value) : Prop where
 isMap : IsMap D
 val : ∀ a, WfP a → D.atKey (ptL a) (.held (.slice none 0 0)) = .held (f a)
theorem TakD.empty : TakD (.map []) (fun _ => .slice none 0 0) := ⟨isMap_empty, fun a _ => by simp [DataW.atKey]⟩
theorem TakD.put {D : DataW Value} {f : PtT → Value} (h : TakD D f) (p : PtT) (hp : WfP p) (v : Value) : TakD (D.put (ptL p) (.held v)) (fun q => if q = p then v else f q) := by
 refine ⟨h.isMap.put _ _, fun a ha => ?_⟩
 by_cases e : a = p
 ·
  rw [if_pos e, e, atKey_put_same h.isMap (ptL_is _)]
 ·
  rw [if_neg e, atKey_put_other (fun e2 => e (ptL_inj ha hp e2)), h.val a ha]

section
variable {H : Type} {P : Program} {k : TypeId} {R : Value → Option (DataW H × List MemPlace)} {w : World} {b n : Nat} {D : DataW H}

/-- What a block is good for hangs on the block alone. -/
theorem owns_of_heap {w w' : World} (h : w.ownsMap P k R b n D) (e : w'.heap[b]? = w.heap[b]?) : w'.ownsMap P k R b n D := by
 obtain ⟨es, clock, hb, r⟩ := h
 exact ⟨es, clock, e.trans hb, r⟩

theorem set_at {w : World} {o o' : Obj} (h : w.heap[b]? = some o) : (setBlock w b o').heap[b]? = some o' := by
 have hl := lt_of_block h
 simp [setBlock, hl]

theorem set_grown (w : World) (b : Nat) (o : Obj) : w.grownBy (setBlock w b o) (some b) :=
 ⟨rfl, rfl, rfl, by simp [setBlock], fun i _ hi => by
  have : b ≠ i := fun e => hi (by rw [e])
  simp [setBlock, this]⟩

/-- An entry is taken up: the block is some block X now; behind a store into it the map reads as one with the key put. -/
theorem own_entry (h : w.ownsMap P k R b n D) (K : Keyed P k) {t e : TypeId} (ht : P.underlying t = some (.map k e)) {z : Value} (hz : ∀ u : World, (zeroValue e).run P u = .ok z u) (hn : n < maxLen) {key : Value} {kl : Lit} (hkey : keyOf P k key = some kl) :
  ∃ (v0 : Value) (st : Nat) (X : Obj), (Instr.mapEntry t (.map (some b)) key).run P w = .ok (.tuple #[v0, goInt st]) (setBlock w b X) ∧
   (∀ (val : Value) (d : DataW H) (ps : List MemPlace), R val = some (d, ps) → ∃ Y : Obj, (∀ w2 : World, w2.heap[b]? = some X → (Instr.entryStore t (.map (some b)) (goInt st) val).run P w2 = .ok () (setBlock w2 b Y)) ∧
    (setBlock w b Y).ownsMap P k R b (n + 1) (D.put kl d)) ∧
   (∀ (zd : DataW H) (pz : List MemPlace), R z = some (zd, pz) → ∃ ps, R v0 = some (D.atKey kl zd, ps)) ∧
   ∀ (zd : DataW H) (pz : List MemPlace), R z = some (zd, pz) → (setBlock w b X).ownsMap P k R b (n + 1) D ∨ ((setBlock w b X).ownsMap P k R b (n + 1) (D.put kl zd) ∧ D.atKey kl zd = zd) := by
 have hlook := fun zd pz (hv : R z = some (zd, pz)) => h.lookup K ht (hz w) hv hkey
 have hself := h.mono (Nat.le_succ n)
 have hup := fun val d ps (hv : R val = some (d, ps)) => h.update K ht hn hkey hv
 obtain ⟨es, clock, hb, F, _, _⟩ := h
 obtain ⟨hst, hnd, _⟩ := F.stamped
 rcases K.find w hkey es.toList F.keys with ⟨hf, hno⟩ | ⟨j, x, hf, hx, hxk⟩
 ·
  refine ⟨z, clock, .map (es.push ⟨key, z, clock⟩) (clock + 1), ?_, fun val d ps hv => ⟨.map (es.push ⟨key, val, clock⟩) (clock + 1), fun w2 hw2 => ?_, ?_⟩, fun zd pz hv => ?_, fun zd pz hv => Or.inr ⟨?_, ?_⟩⟩
  ·
   simp [Instr.mapEntry, run_underlying ht, MapKept.run_getObj_map hb, K.check w false hkey, hf, hz, MapKept.run_setObj_map _ hb, Result.andThen, setBlock]
  ·
   have hnew : ((es.push ⟨key, z, clock⟩).toList.map (·.born)).Nodup := by
    rw [Array.toList_push, List.map_append, List.map_singleton, List.nodup_append]
    refine ⟨hnd, by simp, fun a ha c hc hac => ?_⟩
    rw [List.mem_singleton] at hc
    obtain ⟨y, hy, rfl⟩ := List.mem_map.mp ha
    have := hst y hy
    rw [hac, hc] at this
    exact Nat.lt_irrefl _ this
   have hat : (es.push ⟨key, z, clock⟩).toList[es.size]? = some ⟨key, z, clock⟩ := by simp
   have hidx := (findIdx_arr (es.push ⟨key, z, clock⟩) (fun e => ((e.born : Nat) : Int) == ((clock : Nat) : Int))).trans (findIdx_born hnew hat)
   have hmod : (es.push ⟨key, z, clock⟩).modify es.size (fun e => { e with val := val }) = es.push ⟨key, val, clock⟩ := by
    apply Array.ext'
    have := modify_last (fun e : MapEntry => { e with val := val }) ⟨key, z, clock⟩ es.toList
    rw [Array.toList_modify, Array.toList_push, Array.toList_push, ← this]
    simp
   simp [Instr.entryStore, MapKept.run_getObj_map hw2, asInt, asIntOf, goInt, hidx, hmod, MapKept.run_setObj_map _ hw2, Result.andThen, setBlock]
  ·
   obtain ⟨w', hrun, ho, _⟩ := hup val d ps hv
   have : (Instr.mapUpdate t (.map (some b)) key val).run P w = .ok () (setBlock w b (.map (es.push ⟨key, val, clock⟩) (clock + 1))) := by
    simp [Instr.mapUpdate, run_underlying ht, MapKept.run_getObj_map hb, K.check w false hkey, hf, MapKept.run_setObj_map _ hb, Result.andThen, setBlock]
   rw [this] at hrun
   cases hrun
   exact ho
  ·
   obtain ⟨v, ps, hrun, hv2⟩ := hlook zd pz hv
   have : (Instr.lookup t (.map (some b)) key false).run P w = .ok z w := by
    simp [Instr.lookup, run_underlying ht, MapKept.run_getObj_map hb, K.check w es.isEmpty hkey, hf, hz, Result.andThen]
   rw [this] at hrun
   cases hrun
   exact ⟨ps, hv2⟩
  ·
   obtain ⟨w', hrun, ho, _⟩ := hup z zd pz hv
   have : (Instr.mapUpdate t (.map (some b)) key z).run P w = .ok () (setBlock w b (.map (es.push ⟨key, z, clock⟩) (clock + 1))) := by
    simp [Instr.mapUpdate, run_underlying ht, MapKept.run_getObj_map hb, K.check w false hkey, hf, MapKept.run_setObj_map _ hb, Result.andThen, setBlock]
   rw [this] at hrun
   cases hrun
   exact ho
  ·
   obtain ⟨v, ps, hrun, hv2⟩ := hlook zd pz hv
   have : (Instr.lookup t (.map (some b)) key false).run P w = .ok z w := by
    simp [Instr.lookup, run_underlying ht, MapKept.run_getObj_map hb, K.check w es.isEmpty hkey, hf, hz, Result.andThen]
   rw [this] at hrun
   cases hrun
   rw [hv] at hv2
   simp only [Option.some.injEq, Prod.mk.injEq] at hv2
   exact hv2.1.symm
 ·
  have hj : es[j]? = some x := by simpa using hx
  have hsame : es.modify j (fun e => { e with key := key }) = es := by
   apply Array.ext'
   rw [Array.toList_modify, modify_eq_set _ _ _ _ hx, show ({ x with key := key } : MapEntry) = x from by rw [← hxk]]
   exact set_self _ _ _ hx
  refine ⟨x.val, x.born, .map es clock, ?_, fun val d ps hv => ⟨.map (es.modify j (fun e => { e with key := key, val := val })) clock, fun w2 hw2 => ?_, ?_⟩, fun zd pz hv => ?_, fun zd pz hv => Or.inl (owns_of_heap hself (by rw [set_at hb, hb]))⟩
  ·
   simp [Instr.mapEntry, run_underlying ht, MapKept.run_getObj_map hb, K.check w false hkey, hf, hj, hxk, K.stays w hkey, hsame, MapKept.run_setObj_map _ hb, Result.andThen, setBlock]
  ·
   have hidx := (findIdx_arr es (fun e => ((e.born : Nat) : Int) == ((x.born : Nat) : Int))).trans (findIdx_born hnd hx)
   have hmod : es.modify j (fun e => { e with val := val }) = es.modify j (fun e => { e with key := key, val := val }) := by
    apply Array.ext'
    rw [Array.toList_modify, Array.toList_modify, modify_eq_set _ _ _ _ hx, modify_eq_set _ _ _ _ hx, ← hxk]
   simp [Instr.entryStore, MapKept.run_getObj_map hw2, asInt, asIntOf, goInt, hidx, hmod, MapKept.run_setObj_map _ hw2, Result.andThen, setBlock]
  ·
   obtain ⟨w', hrun, ho, _⟩ := hup val d ps hv
   have : (Instr.mapUpdate t (.map (some b)) key val).run P w = .ok () (setBlock w b (.map (es.modify j (fun e => { e with key := key, val := val })) clock)) := by
    simp [Instr.mapUpdate, run_underlying ht, MapKept.run_getObj_map hb, K.check w false hkey, hf, hj, hxk, K.stays w hkey, MapKept.run_setObj_map _ hb, Result.andThen, setBlock]
   rw [this] at hrun
   cases hrun
   exact ho
  ·
   obtain ⟨v, ps, hrun, hv2⟩ := hlook zd pz hv
   have : (Instr.lookup t (.map (some b)) key false).run P w = .ok x.val w := by
    simp [Instr.lookup, run_underlying ht, MapKept.run_getObj_map hb, K.check w es.isEmpty hkey, hf, hj, Result.andThen]
   rw [this] at hrun
   cases hrun
   exact ⟨ps, hv2⟩
end

/-- Block M is a map from points to lists of numbers, of the call's own, the lists from block B on. -/
structure TakenF (w : World) (B M N : Nat) (f : PtT → Value) (G : PtT → List Int) : Prop where
 map : ∃ D : DataW Value, w.ownsMap Tryz.prog 23 RV M N D ∧ TakD D f
 rows : ∀ p, w.ownsRow B 3 1 (f p) (G p).length ((G p).map (Value.int .i64))
 apart : ∀ p q, p ≠ q → (f p).ownBlock = (f q).ownBlock → (f p).ownBlock = none
def TakenAt (w : World) (B M N : Nat) (G : PtT → List Int) : Prop := ∃ f, TakenF w B M N f G

theorem nil_row {w : World} {B : Nat} {T : TypeId} {k : Nat} : w.ownsRow B T k (.slice none 0 0) 0 [] := ⟨by simp, Or.inl ⟨rfl, rfl⟩⟩
theorem TakenAt.made (w : World) (B : Nat) : TakenAt (w.alloc (.map #[] 0)) B w.heap.size 0 (fun _ => []) :=
 ⟨fun _ => .slice none 0 0, ⟨_, World.ownsMap_made _ _ _ _, TakD.empty⟩, fun _ => nil_row, fun _ _ _ _ => rfl⟩

theorem TakenF.blk {w : World} {B M N : Nat} {f : PtT → Value} {G : PtT → List Int} (h : TakenF w B M N f G) : ∃ es clock, w.heap[M]? = some (.map es clock) := let ⟨⟨_, h, _⟩, _, _⟩ := h; let ⟨es, c, e, _⟩ := h; ⟨es, c, e⟩
theorem row_ne_map {w : World} {B n M k : Nat} {T : TypeId} {v : Value} {xs : List Value} {es : Array MapEntry} {c : Nat} (h : w.ownsRow B T k v n xs) (hM : w.heap[M]? = some (.map es c)) : v.ownBlock ≠ some M := by
 intro e
 rcases h.2 with ⟨rfl, _⟩ | ⟨g, cap, cur, rfl, _, hg, _⟩
 ·
  cases e
 ·
  cases e
  rw [hM] at hg
  cases hg
/-- Every block that it is made of stays. -/
theorem TakenF.keep {w w' : World} {B M N : Nat} {f : PtT → Value} {G : PtT → List Int} (h : TakenF w B M N f G) (hM : w'.heap[M]? = w.heap[M]?) (hr : ∀ p b, (f p).ownBlock = some b → w'.heap[b]? = w.heap[b]?) : TakenF w' B M N f G :=
 ⟨let ⟨D, a, b⟩ := h.map; ⟨D, owns_of_heap a hM, b⟩, fun p => row_of_heap (h.rows p) fun r hr' => hr p r hr', h.apart⟩
theorem TakenF.below {w w' : World} {B M N : Nat} {f : PtT → Value} {G : PtT → List Int} (h : TakenF w B M N f G) (hb : Below w.heap.size w w') : TakenF w' B M N f G := by
 obtain ⟨es, c, hM⟩ := h.blk
 exact h.keep (hb.block M (lt_of_block hM)) fun p b e => hb.block b ((h.rows p).lt b e).2
/-- A block of another kind or place is written. -/
theorem TakenF.grown {w w' : World} {B M N : Nat} {f : PtT → Value} {G : PtT → List Int} {o : Option Nat} (h : TakenF w B M N f G) (hg : w.grownBy w' o) (hM : o ≠ some M) (hr : ∀ p, (f p).ownBlock = o → o = none) : TakenF w' B M N f G := by
 obtain ⟨es, c, hMb⟩ := h.blk
 refine h.keep (hg.block M (lt_of_block hMb) (fun e => hM e.symm)) fun p b e => hg.block b ((h.rows p).lt b e).2 (fun e2 => ?_)
 have := hr p (e.trans e2)
 rw [this] at e2
 cases e2

theorem TakenF.look {w : World} {B M N : Nat} {f : PtT → Value} {G : PtT → List Int} (h : TakenF w B M N f G) (p : PtT) (hp : WfP p) :
  (Instr.lookup 101 (.map (some M)) (ptV p) false).run Tryz.prog w = .ok (f p) w := by
 obtain ⟨D, h1, h2⟩ := h.map
 obtain ⟨v, ps, hrun, hv⟩ := h1.lookup lawP Tryz.underlying101 (z := .slice none 0 0) (by kernel_rfl) (zd := .held (.slice none 0 0)) (zp := []) rfl (key_pt p hp)
 rw [h2.val p hp] at hv
 rw [hrun, RV_inv hv]
theorem zeroSl (w : World) : (zeroValue 97).run Tryz.prog w = .ok (.slice none 0 0) w := by kernel_rfl

/-- An entry is taken up, and stored into. -/
theorem TakenF.entry {w : World} {B M N : Nat} {f : PtT → Value} {G : PtT → List Int} (h : TakenF w B M N f G) (p : PtT) (hp : WfP p) (hN : N < maxLen) :
  ∃ (v0 : Value) (st : Nat) (X : Obj), (Instr.mapEntry 101 (.map (some M)) (ptV p)).run Tryz.prog w = .ok (.tuple #[v0, goInt st]) (setBlock w M X) ∧ v0 = f p ∧ (∃ es c, X = .map es c) ∧ TakenF (setBlock w M X) B M (N + 1) f G ∧
   ∀ val : Value, ∃ (Y : Obj) (D : DataW Value), (∀ w2 : World, w2.heap[M]? = some X → (Instr.entryStore 101 (.map (some M)) (goInt st) val).run Tryz.prog w2 = .ok () (setBlock w2 M Y)) ∧
    (setBlock w M Y).ownsMap Tryz.prog 23 RV M (N + 1) D ∧ TakD D (fun q => if q = p then val else f q) := by
 obtain ⟨es, c, hMb⟩ := h.blk
 have hrows := h.rows
 obtain ⟨D, h1, h2⟩ := h.map
 obtain ⟨v0, st, X, e1, e2, e0, e3⟩ := own_entry h1 lawP Tryz.underlying101 zeroSl hN (key_pt p hp)
 have hX : ∃ es c, X = .map es c := by
  have hs := set_at (o' := X) hMb
  rcases e3 (.held (.slice none 0 0)) [] rfl with ⟨es, c, q, _⟩ | ⟨⟨es, c, q, _⟩, _⟩ <;>
  ·
   rw [hs] at q
   exact ⟨es, c, by simpa using q⟩
 have hv0 : v0 = f p := by
  obtain ⟨ps, hv⟩ := e0 (.held (.slice none 0 0)) [] rfl
  rw [h2.val p hp] at hv
  exact RV_inv hv
 refine ⟨v0, st, X, e1, hv0, hX, ⟨?_, fun q => row_of_heap (hrows q) fun r hr => (set_grown w M X).block r ((hrows q).lt r hr).2 (fun e => ?_), h.apart⟩, fun val => ?_⟩
 ·
  rcases e3 (.held (.slice none 0 0)) [] rfl with h3 | ⟨h3, h4⟩
  ·
   exact ⟨D, h3, h2⟩
  ·
   have hf : f p = .slice none 0 0 := by
    rw [h2.val p hp] at h4
    simpa using h4
   have hput := h2.put p hp (.slice none 0 0)
   have : (fun q => if q = p then Value.slice none 0 0 else f q) = f := by
    funext q
    by_cases e : q = p
    ·
     rw [if_pos e, e, hf]
    ·
     rw [if_neg e]
   rw [this] at hput
   exact ⟨_, h3, hput⟩
 ·
  exact row_ne_map (hrows q) hMb (hr.trans e)
 ·
  obtain ⟨Y, y1, y2⟩ := e2 val (.held val) [] rfl
  exact ⟨Y, _, y1, y2, h2.put p hp val⟩
theorem flat_int (l : List Int) : flat IntE l = l.map (Value.int .i64) := by
 induction l with
 | nil => rfl
 | cons x l ih =>
  unfold flat at *
  rw [List.flatMap_cons, ih]
  rfl

theorem TakenF.lt {w : World} {B M N : Nat} {f : PtT → Value} {G : PtT → List Int} (h : TakenF w B M N f G) (p : PtT) {b : Nat} (e : (f p).ownBlock = some b) : b < w.heap.size := ((h.rows p).lt b e).2

/-- 'taken[p] = append(taken[p], n)'. -/
theorem TakenF.pushed {w : World} {B M N : Nat} {f : PtT → Value} {G : PtT → List Int} (h : TakenF w B M N f G) (p : PtT) (hp : WfP p) (hN : N < maxLen) (gs : Nat) (n : Int) (hs : w.heap[gs]? = some (.cells #[.int .i64 n] 3 (0, 0))) (hl : (G p).length < 1000000) (hB : B ≤ w.heap.size) (ty : TypeId) :
  ∃ (st : Nat) (w4 : World) (v' : Value) (w5 w6 : World), (Instr.mapEntry 101 (.map (some M)) (.agg #[.int .i64 p.1, .int .i64 p.2])).run Tryz.prog w = .ok (.tuple #[f p, goInt st]) w4 ∧
   (Builtin.append_ #[97, 97] ty #[f p, .slice (some ⟨gs, 0, none⟩) 1 1]).run Tryz.prog w4 = .ok v' w5 ∧ (Instr.entryStore 101 (.map (some M)) (goInt st) v').run Tryz.prog w5 = .ok () w6 ∧
   (∃ f', TakenF w6 B M (N + 1) f' (fun q => if q = p then G q ++ [n] else G q) ∧ ∀ q, (f' q).ownBlock = (f q).ownBlock ∨ (f' q).ownBlock = some w.heap.size) ∧
   w6.os = w.os ∧ w6.tape = w.tape ∧ w6.output = w.output ∧ w.heap.size ≤ w6.heap.size ∧ ∀ b, b < w.heap.size → b ≠ M → (f p).ownBlock ≠ some b → w6.heap[b]? = w.heap[b]? := by
 obtain ⟨es0, c0, hMb⟩ := h.blk
 obtain ⟨v0, st, X, e1, rfl, ⟨es, c, rfl⟩, h4, hst⟩ := h.entry p hp hN
 have hg4 := set_grown w M (.map es c)
 have hM4 : (setBlock w M (.map es c)).heap[M]? = some (.map es c) := set_at hMb
 have hz4 : (setBlock w M (.map es c)).heap.size = w.heap.size := by simp [setBlock]
 have hgM : gs ≠ M := fun e => by rw [e, hMb] at hs; cases hs
 have hs4 : (setBlock w M (.map es c)).heap[gs]? = some (.cells #[.int .i64 n] 3 (0, 0)) := (hg4.block gs (lt_of_block hs) (by simp; exact hgM)).trans hs
 generalize setBlock w M (.map es c) = w4 at *
 have hu : Rcs IntE w4 (.slice (some ⟨gs, 0, none⟩) 1 1) [n] := ⟨_, 1, rfl, ⟨rfl, fun i hi => ⟨gs, 0, rfl, fun j hj => by
  obtain rfl : i = 0 := by have : i < 1 := hi; omega
  obtain rfl : j = 0 := by omega
  rw [rc_eq _ _ (by simp)]
  exact boxed_cell (j := 0) hs4 rfl⟩⟩, fun e => by cases e⟩
 have hown := h4.rows p
 rw [← flat_int] at hown
 obtain ⟨v', w5, hAPP, ho5, hg5, hob⟩ := append_recs (E := IntE) 97 3 ty Tryz.underlying97 info_int rfl (by decide) hown hu (by simp; omega) (by omega)
 rw [flat_int, show (G p).length + [n].length = (G p ++ [n]).length from by simp] at ho5
 have hne : (f p).ownBlock ≠ some M := row_ne_map (h4.rows p) hM4
 have hM5 : w5.heap[M]? = some (.map es c) := (hg5.block M (lt_of_block hM4) (fun e => hne e.symm)).trans hM4
 obtain ⟨Y, D, hy1, hy2, hy3⟩ := hst v'
 have hg6 := set_grown w5 M Y
 have hM6 : (setBlock w5 M Y).heap[M]? = some Y := set_at hM5
 refine ⟨st, w4, v', w5, setBlock w5 M Y, e1, hAPP, hy1 w5 hM5, ⟨fun q => if q = p then v' else f q, ⟨⟨D, ?_, hy3⟩, fun q => ?_, fun q r hqr e => ?_⟩, fun q => ?_⟩, hg6.os.trans (hg5.os.trans hg4.os), hg6.tape.trans (hg5.tape.trans hg4.tape), hg6.output.trans (hg5.output.trans hg4.output), by have := hg5.size; have := hg6.size; omega, fun b hb hbM hbf => ?_⟩
 ·
  exact owns_of_heap hy2 (by rw [hM6, set_at hMb])
 ·
  by_cases e : q = p
  ·
   simp only [if_pos e]
   subst e
   exact row_of_heap ho5 fun r hr => hg6.block r (ho5.lt r hr).2 (fun e => row_ne_map ho5 hM5 (hr.trans e))
  ·
   simp only [if_neg e]
   have h5 : w5.ownsRow B 3 1 (f q) (G q).length ((G q).map (Value.int .i64)) := row_of_heap (h4.rows q) fun r hr => hg5.block r ((h4.rows q).lt r hr).2 (fun e2 => by
    have := h.apart q p e (hr.trans e2)
    rw [this] at hr
    cases hr)
   exact row_of_heap h5 fun r hr => hg6.block r (h5.lt r hr).2 (fun e => row_ne_map h5 hM5 (hr.trans e))
 ·
  have key : ∀ q, q ≠ p → v'.ownBlock = (f q).ownBlock → v'.ownBlock = none := by
   intro q hq e
   rcases hob with e2 | e2
   ·
    have := h.apart p q (fun h => hq h.symm) (e2.symm.trans e)
    rw [e2, this]
   ·
    have := (h4.rows q).lt _ (e.symm.trans e2)
    omega
  by_cases e1 : q = p
  ·
   simp only [if_pos e1] at e ⊢
   rw [if_neg (fun h => hqr (e1.trans h.symm))] at e
   exact key r (fun h => hqr (e1.trans h.symm)) e
  ·
   simp only [if_neg e1] at e ⊢
   by_cases e2 : r = p
   ·
    rw [if_pos e2] at e
    rw [e]
    exact key q e1 e.symm
   ·
    rw [if_neg e2] at e
    exact h.apart q r hqr e
 ·
  by_cases e : q = p
  ·
   simp only [if_pos e]
   subst e
   rcases hob with e2 | e2
   ·
    exact Or.inl e2
   ·
    rw [hz4] at e2; exact Or.inr e2
  ·
   exact Or.inl (by simp only [if_neg e])
 ·
  rw [hg6.block b (by have := hg5.size; omega) (fun e => hbM (by simpa using e)), hg5.block b (by omega) (fun e => hbf e.symm), hg4.block b hb (fun e => hbM (by simpa using e))]
end Go.Proofs.YtmcdhggnpfhlmaaGreat

namespace Go.Proofs.YtmcdhggnpfhlmaaGreat
open Go.RowKit Go.IntWalk
set_option linter.unusedSimpArgs false
set_option linter.unusedVariables false

/-! ### Sorted and compact -/
theorem compactUpTo_law (d : Array Int) (hs : ∀ i j, i ≤ j → j < d.size → d[i]! ≤ d[j]!) : ∀ m, m ≤ d.size → (Lib.compactUpTo d m).Pairwise (· < ·) ∧ ∀ x, x ∈ Lib.compactUpTo d m ↔ ∃ j, j < m ∧ d[j]! = x
 | 0, _ => ⟨by simp [Lib.compactUpTo], fun x => by simp [Lib.compactUpTo]⟩
 | m + 1, hm => by
  obtain ⟨h1, h2⟩ := compactUpTo_law d hs m (by omega)
  rw [Lib.compactUpTo_succ]
  by_cases hk : m = 0 ∨ d[m]! ≠ d[m - 1]!
  ·
   have hk2 : Lib.keeps d m = true := by simpa [Lib.keeps] using hk
   rw [if_pos hk2]
   refine ⟨List.pairwise_append.2 ⟨h1, by simp, fun x hx y hy => ?_⟩, fun x => ?_⟩
   ·
    obtain ⟨j, hj, rfl⟩ := (h2 x).1 hx
    simp only [List.mem_singleton] at hy
    subst hy
    have e1 := hs j (m - 1) (by omega) (by omega)
    have e2 := hs (m - 1) m (by omega) (by omega)
    have e3 : d[m]! ≠ d[m - 1]! := by
     rcases hk with h | h
     ·
      omega
     ·
      exact h
    omega
   ·
    rw [List.mem_append, h2 x, List.mem_singleton]
    constructor
    ·
     rintro (⟨j, hj, e⟩ | e)
     ·
      exact ⟨j, by omega, e⟩
     ·
      exact ⟨m, by omega, e.symm⟩
    ·
     rintro ⟨j, hj, e⟩
     by_cases hjm : j = m
     ·
      subst hjm; exact Or.inr e.symm
     ·
      exact Or.inl ⟨j, by omega, e⟩
  ·
   have hm0 : m ≠ 0 := fun h => hk (Or.inl h)
   have he : d[m]! = d[m - 1]! := by
    apply Classical.byContradiction
    exact fun h => hk (Or.inr h)
   rw [Lib.keeps_neg (by omega) he]
   simp only [Bool.false_eq_true, if_false, List.append_nil]
   refine ⟨h1, fun x => ?_⟩
   rw [h2 x]
   constructor
   ·
    rintro ⟨j, hj, e⟩; exact ⟨j, by omega, e⟩
   ·
    rintro ⟨j, hj, e⟩
    by_cases hjm : j = m
    ·
     subst hjm; exact ⟨j - 1, by omega, by rw [← he, e]⟩
    ·
     exact ⟨j, by omega, e⟩

theorem strict_ext : ∀ {a b : List Int}, a.Pairwise (· < ·) → b.Pairwise (· < ·) → (∀ x, x ∈ a ↔ x ∈ b) → a = b
 | [], [], _, _, _ => rfl
 | [], y :: b, _, _, h => absurd ((h y).2 (List.mem_cons_self ..)) (by simp)
 | x :: a, [], _, _, h => absurd ((h x).1 (List.mem_cons_self ..)) (by simp)
 | x :: a, y :: b, ha, hb, h => by
  have ha' := List.pairwise_cons.1 ha
  have hb' := List.pairwise_cons.1 hb
  have hxy : x = y := by
   rcases List.mem_cons.1 ((h x).1 (List.mem_cons_self ..)) with e | e
   ·
    exact e
   ·
    rcases List.mem_cons.1 ((h y).2 (List.mem_cons_self ..)) with e2 | e2
    ·
     exact e2.symm
    ·
     have := ha'.1 y e2
     have := hb'.1 x e
     omega
  subst hxy
  congr 1
  refine strict_ext ha'.2 hb'.2 fun z => ?_
  constructor
  ·
   intro hz
   rcases List.mem_cons.1 ((h z).1 (List.mem_cons_of_mem _ hz)) with e | e
   ·
    have := ha'.1 z hz; omega
   ·
    exact e
  ·
   intro hz
   rcases List.mem_cons.1 ((h z).2 (List.mem_cons_of_mem _ hz)) with e | e
   ·
    have := hb'.1 z hz; omega
   ·
    exact e

theorem sort_compact (O : List Int) : (Lib.compact (O.mergeSort fun x y => decide (x ≤ y))).Pairwise (· < ·) ∧ ∀ x, x ∈ Lib.compact (O.mergeSort fun x y => decide (x ≤ y)) ↔ x ∈ O := by
 have hsrt : (O.mergeSort fun x y => decide (x ≤ y)).Pairwise fun x y => decide (x ≤ y) = true := List.pairwise_mergeSort (fun a b c h1 h2 => by simp at *; omega) (fun a b => by simp; omega) O
 have hm : ∀ x, x ∈ O ↔ x ∈ (O.mergeSort fun x y => decide (x ≤ y)) := fun x => List.mem_mergeSort.symm
 generalize (O.mergeSort fun x y => decide (x ≤ y)) = Z at *
 have hs : ∀ i j, i ≤ j → j < Z.toArray.size → Z.toArray[i]! ≤ Z.toArray[j]! := fun i j hij hj => by
  have hj' : j < Z.length := by simpa using hj
  have hi' : i < Z.length := by omega
  by_cases e : i = j
  ·
   subst e; exact Int.le_refl _
  ·
   have := List.pairwise_iff_getElem.1 hsrt i j hi' hj' (by omega)
   simp only [decide_eq_true_eq] at this
   simpa [hi', hj'] using this
 obtain ⟨h1, h2⟩ := compactUpTo_law Z.toArray hs Z.length (by simp)
 refine ⟨h1, fun x => ?_⟩
 rw [hm x]
 show x ∈ Lib.compactUpTo _ _ ↔ _
 rw [h2 x, List.mem_iff_getElem]
 constructor
 ·
  rintro ⟨j, hj, e⟩; exact ⟨j, hj, by simpa [hj] using e⟩
 ·
  rintro ⟨j, hj, e⟩; exact ⟨j, hj, by simpa [hj] using e⟩

/-! ### Points -/
def ptsS (r : RowR) : List (Int × Int) := (seatsS r).map fun p => (p.2, r.y)
/-- Which rows have a seat at a point. -/
def gAt (rows : List RowR) (p : Int × Int) : List Int := ((List.range rows.length).filter fun j => (rows[j]?).any fun r => decide (p ∈ ptsS r)).map Int.ofNat
/-- .. when of the next row some seats are there. -/
def gAtP (rows : List RowR) (y : Int) (l : List (Int × Int)) (p : Int × Int) : List Int := gAt rows p ++ if p ∈ l.map (fun q => (q.2, y)) then [(rows.length : Int)] else []

theorem gAt_le (rows : List RowR) (p : Int × Int) : (gAt rows p).length ≤ rows.length := by
 unfold gAt
 rw [List.length_map]
 exact Nat.le_trans (List.length_filter_le _ _) (by simp)
theorem gAt_mem {rows : List RowR} {p : Int × Int} {x : Int} : x ∈ gAt rows p ↔ ∃ (j : Nat) (hj : j < rows.length), x = j ∧ p ∈ ptsS rows[j] := by
 unfold gAt
 simp only [List.mem_map, List.mem_filter, List.mem_range]
 constructor
 ·
  rintro ⟨j, ⟨hj, h⟩, rfl⟩
  rw [List.getElem?_eq_getElem hj] at h
  exact ⟨j, hj, rfl, by simpa using h⟩
 ·
  rintro ⟨j, hj, rfl, h⟩
  exact ⟨j, ⟨hj, by rw [List.getElem?_eq_getElem hj]; simpa using h⟩, rfl⟩
theorem gAt_next (rows : List RowR) (r : RowR) : gAt (rows ++ [r]) = gAtP rows r.y (seatsS r) := by
 funext p
 unfold gAtP gAt
 rw [List.length_append, List.length_singleton, List.range_succ, List.filter_append, List.map_append]
 congr 1
 ·
  congr 1
  refine List.filter_congr fun j hj => ?_
  have hj' : j < rows.length := by simpa using hj
  rw [List.getElem?_append_left hj']
 ·
  rw [List.filter_cons, List.getElem?_append_right (Nat.le_refl _)]
  simp only [Nat.sub_self, List.getElem?_cons_zero, Option.any_some, List.filter_nil]
  unfold ptsS
  by_cases h : p ∈ List.map (fun p => (p.2, r.y)) (seatsS r)
  ·
   rw [if_pos (by simpa using h), if_pos h]; rfl
  ·
   rw [if_neg (by simpa using h), if_neg h]; rfl
theorem gAtP_nil (rows : List RowR) (y : Int) : gAtP rows y [] = gAt rows := by
 funext p
 simp [gAtP]

theorem xs_nodup {r : RowR} (hok : RowOk r) : ((seatsS r).map (·.2)).Nodup := by
 unfold seatsS
 rw [List.filter_map, List.map_map]
 have hst := hok.st
 refine List.Pairwise.map _ (fun a b (h : a ≠ b) => ?_) ((List.nodup_range).filter _)
 intro e
 have e2 : (a : Int) * r.step = (b : Int) * r.step := by
  have : r.x + (a : Int) * r.step = r.x + (b : Int) * r.step := e
  omega
 have := Int.eq_of_mul_eq_mul_right (by omega) e2
 exact h (by omega)

/-- The point of one seat more is new among those of the row. -/
theorem pt_new {r : RowR} (hok : RowOk r) {l : List (Int × Int)} {q : Int × Int} (h : (l ++ [q]) <+: seatsS r) : (q.2, r.y) ∉ l.map fun p => (p.2, r.y) := by
 have hn := (List.Sublist.nodup (h.sublist.map (·.2)) (xs_nodup hok))
 rw [List.map_append, List.nodup_append] at hn
 intro hm
 obtain ⟨p, hp, e⟩ := List.mem_map.1 hm
 have e1 : p.2 = q.2 := (Prod.mk.injEq .. ▸ e).1
 exact hn.2.2 p.2 (List.mem_map_of_mem hp) q.2 (by simp) e1
theorem gAtP_at {rows : List RowR} {r : RowR} (hok : RowOk r) {l : List (Int × Int)} {q : Int × Int} (h : (l ++ [q]) <+: seatsS r) : gAtP rows r.y l (q.2, r.y) = gAt rows (q.2, r.y) := by
 unfold gAtP
 rw [if_neg (pt_new hok h), List.append_nil]
theorem gAtP_next (rows : List RowR) {r : RowR} (hok : RowOk r) {l : List (Int × Int)} {q : Int × Int} (h : (l ++ [q]) <+: seatsS r) :
  gAtP rows r.y (l ++ [q]) = fun p => if p = (q.2, r.y) then gAtP rows r.y l p ++ [(rows.length : Int)] else gAtP rows r.y l p := by
 funext p
 by_cases e : p = (q.2, r.y)
 ·
  rw [if_pos e, e, gAtP_at hok h]
  unfold gAtP
  rw [if_pos (by simp)]
 ·
  rw [if_neg e]
  unfold gAtP
  congr 1
  by_cases hm : p ∈ l.map fun q => (q.2, r.y)
  ·
   rw [if_pos hm, if_pos (by rw [List.map_append]; exact List.mem_append_left _ hm)]
  ·
   rw [if_neg hm, if_neg (by
    rw [List.map_append, List.mem_append]
    rintro (h | h)
    ·
     exact hm h
    ·
     exact e (by simpa using h))]

/-- What is gathered. -/
def othS (rows : List RowR) (y : Int) (l : List (Int × Int)) : List Int := l.flatMap fun q => gAt rows (q.2, y)
theorem othS_next (rows : List RowR) (y : Int) (l : List (Int × Int)) (q : Int × Int) : othS rows y (l ++ [q]) = othS rows y l ++ gAt rows (q.2, y) := by simp [othS]
theorem othS_le (rows : List RowR) (y : Int) : ∀ l : List (Int × Int), (othS rows y l).length ≤ l.length * rows.length
 | [] => by simp [othS]
 | q :: l => by
  have h1 := othS_le rows y l
  have h2 := gAt_le rows (q.2, y)
  unfold othS at *
  rw [List.flatMap_cons, List.length_append, List.length_cons, Nat.succ_mul]
  omega

theorem share_iff (a b : RowR) : shareB a b = true ↔ ∃ p ∈ seatsS a, (p.2, a.y) ∈ ptsS b := by
 unfold shareB ptsS
 simp only [List.any_eq_true, Bool.and_eq_true, decide_eq_true_eq, List.mem_map, Prod.mk.injEq]
 constructor
 ·
  rintro ⟨p, hp, q, hq, h1, h2⟩; exact ⟨p, hp, q, hq, h1.symm, h2.symm⟩
 ·
  rintro ⟨p, hp, q, hq, h1, h2⟩; exact ⟨p, hp, q, hq, h1.symm, h2.symm⟩

/-- Which of the rows share a point with r, in order. -/
def shrS (rows : List RowR) (r : RowR) : List Nat := (List.range rows.length).filter fun j => (rows[j]?).any fun b => shareB r b
theorem oth_is (rows : List RowR) (r : RowR) : Lib.compact ((othS rows r.y (seatsS r)).mergeSort fun x y => decide (x ≤ y)) = (shrS rows r).map Int.ofNat := by
 obtain ⟨h1, h2⟩ := sort_compact (othS rows r.y (seatsS r))
 refine strict_ext h1 ?_ fun x => ?_
 ·
  unfold shrS
  refine List.Pairwise.map _ (fun a b (h : a < b) => ?_) ((List.pairwise_lt_range).filter _)
  show (a : Int) < b
  omega
 ·
  rw [h2 x]
  unfold othS shrS
  simp only [List.mem_flatMap, gAt_mem, List.mem_map, List.mem_filter, List.mem_range]
  constructor
  ·
   rintro ⟨q, hq, j, hj, rfl, hp⟩
   refine ⟨j, ⟨hj, ?_⟩, rfl⟩
   rw [List.getElem?_eq_getElem hj]
   exact (share_iff _ _).2 ⟨q, hq, hp⟩
  ·
   rintro ⟨j, ⟨hj, h⟩, rfl⟩
   rw [List.getElem?_eq_getElem hj] at h
   obtain ⟨q, hq, hp⟩ := (share_iff _ _).1 (by simpa using h)
   exact ⟨q, hq, j, hj, rfl, hp⟩
theorem shr_lt {rows : List RowR} {r : RowR} {j : Nat} (h : j ∈ shrS rows r) : j < rows.length := by
 unfold shrS at h
 simpa using (List.mem_filter.1 h).1
theorem shr_faults (rows : List RowR) (r : RowR) : (shrS rows r).map (fun j => (⟨13, r.at', ((rows[j]?).map (·.at')).getD 0⟩ : FaultR)) = (rows.filter fun x => shareB r x).map fun x => ⟨13, r.at', x.at'⟩ := by
 unfold shrS
 suffices h : ∀ (rows : List RowR) (k : Nat) (all : List RowR), (∀ j (hj : j < rows.length), all[k + j]? = some rows[j]) →
   ((List.range' k rows.length).filter fun j => (all[j]?).any fun b => shareB r b).map (fun j => (⟨13, r.at', ((all[j]?).map (·.at')).getD 0⟩ : FaultR)) = (rows.filter fun x => shareB r x).map fun x => ⟨13, r.at', x.at'⟩ by
  rw [List.range_eq_range']
  exact h rows 0 rows fun j hj => by simp [hj]
 intro rows
 induction rows with
 | nil => intro k all _; rfl
 | cons x rows ih =>
  intro k all h
  have h0 : all[k]? = some x := h 0 (by simp)
  have hr := ih (k + 1) all fun j hj => by
   have := h (j + 1) (by simpa using hj)
   rw [show k + 1 + j = k + (j + 1) from by omega, this]
   simp
  rw [List.length_cons, List.range'_succ, List.filter_cons, List.filter_cons, h0]
  simp only [Option.any_some]
  by_cases hs : shareB r x = true
  ·
   rw [if_pos hs, if_pos hs, List.map_cons, List.map_cons, hr, h0]
   rfl
  ·
   rw [if_neg hs, if_neg hs, hr]
end Go.Proofs.YtmcdhggnpfhlmaaGreat

namespace Go.Proofs.YtmcdhggnpfhlmaaGreat
open Go.RowKit Go.IntWalk Go.Maps Go.WideMaps
set_option linter.unusedSimpArgs false
set_option linter.unusedVariables false

/-- w' is w but for some blocks. -/
structure KUpd (S : Nat → Obj → Prop) (w w' : World) : Prop where
 os : w'.os = w.os
 tape : w'.tape = w.tape
 output : w'.output = w.output
 size : w.heap.size ≤ w'.heap.size
 block : ∀ (b : Nat) (o : Obj), w.heap[b]? = some o → ¬ S b o → w'.heap[b]? = some o
section
variable {S : Nat → Obj → Prop} {w w' : World}
theorem KUpd.of_below (h : Below w.heap.size w w') : KUpd S w w' := ⟨h.os, h.tape, h.output, h.size, fun b o hb _ => (h.block b (lt_of_block hb)).trans hb⟩
theorem KUpd.refl (S : Nat → Obj → Prop) (w : World) : KUpd S w w := ⟨rfl, rfl, rfl, Nat.le_refl _, fun _ _ h _ => h⟩
theorem KUpd.trans {a b c : World} (h : KUpd S a b) (k : KUpd S b c) : KUpd S a c :=
 ⟨k.os.trans h.os, k.tape.trans h.tape, k.output.trans h.output, Nat.le_trans h.size k.size, fun i o hi hS => k.block i o (h.block i o hi hS) hS⟩
theorem KUpd.wide {T : Nat → Obj → Prop} (h : KUpd S w w') (hs : ∀ i o, S i o → T i o) : KUpd T w w' :=
 ⟨h.os, h.tape, h.output, h.size, fun i o hi hT => h.block i o hi (fun hS => hT (hs i o hS))⟩
theorem KUpd.of_grown {r : Option Nat} (h : w.grownBy w' r) (hr : ∀ b o, r = some b → w.heap[b]? = some o → S b o) : KUpd S w w' :=
 ⟨h.os, h.tape, h.output, h.size, fun b o hb hS => by
  by_cases e : some b = r
  ·
   exact absurd (hr b o e.symm hb) hS
  ·
   exact (h.block b (lt_of_block hb) e).trans hb⟩
theorem KUpd.of_set {g o : Nat} {v : Value} {ob : Obj} (h : w.heap[g]? = some ob) (hS : S g ob) : KUpd S w (w.setCell ⟨g, o, none⟩ v) :=
 ⟨rfl, rfl, rfl, by simp [World.setCell], fun b o2 hb hT => by
  by_cases e : g = b
  ·
   subst e
   rw [hb] at h
   cases h
   exact absurd hS hT
  ·
   rw [Below.heap_setCell _ _ _ _ (by simp; omega)]
   exact hb⟩
theorem KUpd.of_tupd {T : TypeId → Prop} (h : TUpd T w w') (hs : ∀ b arr t x, T t → S b (.cells arr t x)) : KUpd S w w' :=
 ⟨h.os, h.tape, h.output, h.size, fun b o hb hS => h.block b o hb (fun arr t x e hT => hS (by rw [e]; exact hs b arr t x hT))⟩
theorem KUpd.of_upd {T : Nat → Prop} (h : Upd T w w') (hs : ∀ b o, w.heap[b]? = some o → T b → S b o) : KUpd S w w' :=
 ⟨h.os, h.tape, h.output, h.size, fun b o hb hS => (h.block b (lt_of_block hb) (fun hT => hS (hs b o hb hT))).trans hb⟩
/-- All that changes stands from B on. -/
theorem KUpd.below {B : Nat} {w0 : World} (hb : Below B w0 w) (hB : B ≤ w.heap.size) (h : KUpd S w w') (hs : ∀ i o, w.heap[i]? = some o → S i o → B ≤ i) : Below B w0 w' :=
 hb.trans ⟨h.os, h.tape, h.output, h.size, fun i hi => by
  have hl : i < w.heap.size := Nat.lt_of_lt_of_le hi hB
  rw [h.block i _ (Array.getElem?_eq_getElem hl) (fun hS => by have := hs i _ (Array.getElem?_eq_getElem hl) hS; omega), Array.getElem?_eq_getElem hl]⟩
end

/-- What the calls for a row's places change. -/
def SevT (gB M : Nat) (b : Nat) (o : Obj) : Prop := b = gB ∨ b = M ∨ ∃ arr T x, o = .cells arr T x ∧ (T = 3 ∨ T = 97)

structure SevF (w0 : World) (l : LevR) (r : RowR) (gr gO gM gR gB gl M : Nat) (ra : Option Addr) (nr rc : Nat) (w : World) (O : List Int) (G : PtT → List Int) (bl : Bool) (N : Nat) (v : Value) (f : PtT → Value) : Prop where
 below : Below w0.heap.size w0 w
 base : w0.heap.size ≤ gO ∧ w0.heap.size ≤ gB ∧ w0.heap.size ≤ M
 row : RowIn w gr r
 ov : w.heap[gO]? = some (.cells #[v] 97 (0, 0))
 orow : w.ownsRow w0.heap.size 3 1 v O.length (O.map (Value.int .i64))
 tak : TakenF w w0.heap.size M N f G
 ap : ∀ p, (f p).ownBlock = v.ownBlock → v.ownBlock = none
 mv : w.heap[gM]? = some (.cells #[.map (some M)] 101 (0, 0))
 rv : w.heap[gR]? = some (.cells #[.slice ra nr rc] 50 (0, 0))
 bv : w.heap[gB]? = some (.cells #[.bool bl] 4 (0, 0))
 lev : LevIn w gl l
def Sev (w0 : World) (l : LevR) (r : RowR) (gr gO gM gR gB gl M : Nat) (ra : Option Addr) (nr rc : Nat) (w : World) (O : List Int) (G : PtT → List Int) (bl : Bool) (N : Nat) : Prop :=
 ∃ v f, SevF w0 l r gr gO gM gR gB gl M ra nr rc w O G bl N v f

section
variable {w0 w w' w3 w6 : World} {l : LevR} {r : RowR} {gr gO gM gR gB gl M nr rc N : Nat} {ra : Option Addr} {O O' : List Int} {G G' : PtT → List Int} {bl : Bool} {v v' : Value} {f f' : PtT → Value}

theorem SevF.down (h : SevF w0 l r gr gO gM gR gB gl M ra nr rc w O G bl N v f) (hb : Below w.heap.size w w') : SevF w0 l r gr gO gM gR gB gl M ra nr rc w' O G bl N v f :=
 ⟨h.below.trans (hb.mono h.below.size), h.base, h.row.down hb, (hb.block gO (lt_of_block h.ov)).trans h.ov, row_of_heap h.orow fun r hr => hb.block r (h.orow.lt r hr).2, h.tak.below hb, h.ap,
  (hb.block gM (lt_of_block h.mv)).trans h.mv, (hb.block gR (lt_of_block h.rv)).trans h.rv, (hb.block gB (lt_of_block h.bv)).trans h.bv, h.lev.down hb⟩

/-- A block that is no cells of integers stays when a row of integers grows. -/
theorem grown_keep {B n b : Nat} {u : Value} {xs arr : List Value} {A : Array Value} {T : TypeId} {x : Nat × Nat} (ho : w.ownsRow B 3 1 u n xs) (hg : w.grownBy w' u.ownBlock) (hb : w.heap[b]? = some (.cells A T x)) (hT : T ≠ 3) : w'.heap[b]? = some (.cells A T x) :=
 (hg.block b (lt_of_block hb) (fun e => by
  obtain ⟨cur, hh⟩ := own_type ho e.symm
  exact type_ne hb hh hT rfl)).trans hb
theorem set_keep {g o b : Nat} {u : Value} {A C : Array Value} {T U : TypeId} {x y : Nat × Nat} (hg : w.heap[g]? = some (.cells C U y)) (hb : w.heap[b]? = some (.cells A T x)) (hT : T ≠ U) : (w.setCell ⟨g, o, none⟩ u).heap[b]? = some (.cells A T x) := by
 rw [Below.heap_setCell _ _ _ _ (by simpa using type_ne hb hg hT)]
 exact hb
theorem set_keep_map {g o b : Nat} {u : Value} {C : Array Value} {U : TypeId} {y : Nat × Nat} {es : Array MapEntry} {c : Nat} (hg : w.heap[g]? = some (.cells C U y)) (hb : w.heap[b]? = some (.map es c)) : (w.setCell ⟨g, o, none⟩ u).heap[b]? = w.heap[b]? :=
 Below.heap_setCell _ _ _ _ (by
  rintro e
  have e2 : b = g := by simpa using e
  subst e2; rw [hg] at hb; cases hb)

theorem SevF.app (h : SevF w0 l r gr gO gM gR gB gl M ra nr rc w O G bl N v f) (hg : w.grownBy w3 v.ownBlock) (ho : w3.ownsRow w0.heap.size 3 1 v' O'.length (O'.map (Value.int .i64))) (hob : v'.ownBlock = v.ownBlock ∨ v'.ownBlock = some w.heap.size) :
  SevF w0 l r gr gO gM gR gB gl M ra nr rc (w3.setCell ⟨gO, 0, none⟩ v') O' G bl N v' f := by
 have o3 := grown_keep h.orow hg h.ov (by decide) (arr := [])
 obtain ⟨es, c, hM⟩ := h.tak.blk
 have hM3 : w3.heap[M]? = some (.map es c) := (hg.block M (lt_of_block hM) (fun e => row_ne_map h.orow hM e.symm)).trans hM
 have hb3 : Below w0.heap.size w0 w3 := h.below.grown hg h.below.size (fun k hk => (h.orow.lt k hk).1)
 refine ⟨hb3.trans (below_set h.base.1), h.base, set_keep o3 (grown_keep h.orow hg h.row (by decide) (arr := [])) (by decide), set_var o3, ?_, ?_, ?_,
  set_keep o3 (grown_keep h.orow hg h.mv (by decide) (arr := [])) (by decide), set_keep o3 (grown_keep h.orow hg h.rv (by decide) (arr := [])) (by decide), set_keep o3 (grown_keep h.orow hg h.bv (by decide) (arr := [])) (by decide), set_keep o3 (grown_keep h.orow hg h.lev (by decide) (arr := [])) (by decide)⟩
 ·
  refine row_of_heap ho fun r hr => ?_
  obtain ⟨cur, hh⟩ := own_type ho hr
  rw [set_keep o3 hh (by decide), hh]
 ·
  refine h.tak.keep ?_ fun p b e => ?_
  ·
   rw [set_keep_map o3 hM3, hM3, hM]
  ·
   obtain ⟨cur, hh⟩ := own_type (h.tak.rows p) e
   have hh3 : w3.heap[b]? = some (.cells cur 3 (0, 0)) := (hg.block b (lt_of_block hh) (fun e2 => by
    have := h.ap p (e.trans e2)
    rw [this] at e2; cases e2)).trans hh
   rw [set_keep o3 hh3 (by decide), hh]
 ·
  intro p e
  rcases hob with e2 | e2
  ·
   rw [e2]; exact h.ap p (e.trans e2)
  ·
   have := h.tak.lt p (e.trans e2); omega

theorem SevF.psh (h : SevF w0 l r gr gO gM gR gB gl M ra nr rc w O G bl N v f) {p : PtT} {N' : Nat} (hT : TakenF w6 w0.heap.size M N' f' G') (hf : ∀ q, (f' q).ownBlock = (f q).ownBlock ∨ (f' q).ownBlock = some w.heap.size) (hos : w6.os = w.os) (htp : w6.tape = w.tape) (hou : w6.output = w.output) (hsz : w.heap.size ≤ w6.heap.size)
  (hbk : ∀ b, b < w.heap.size → b ≠ M → (f p).ownBlock ≠ some b → w6.heap[b]? = w.heap[b]?) :
  SevF w0 l r gr gO gM gR gB gl M ra nr rc w6 O G' bl N' v f' := by
 obtain ⟨es, c, hM⟩ := h.tak.blk
 have keep : ∀ {b : Nat} {A : Array Value} {T : TypeId} {x : Nat × Nat}, w.heap[b]? = some (.cells A T x) → T ≠ 3 → w6.heap[b]? = some (.cells A T x) := fun {b A T x} hb hT =>
  (hbk b (lt_of_block hb) (fun e => by rw [e, hM] at hb; cases hb) (fun e => by
   obtain ⟨cur, hh⟩ := own_type (h.tak.rows p) e
   exact type_ne hb hh hT rfl)).trans hb
 refine ⟨⟨hos.trans h.below.os, htp.trans h.below.tape, hou.trans h.below.output, Nat.le_trans h.below.size hsz, fun b hb => ?_⟩, h.base, keep h.row (by decide), keep h.ov (by decide), ?_, hT, ?_, keep h.mv (by decide), keep h.rv (by decide), keep h.bv (by decide), keep h.lev (by decide)⟩
 ·
  have := h.below.size
  have := h.base.2.2
  exact (hbk b (by omega) (by omega) (fun e => by have := ((h.tak.rows p).lt b e).1; omega)).trans (h.below.block b hb)
 ·
  refine row_of_heap h.orow fun b hb => hbk b (h.orow.lt b hb).2 (fun e => row_ne_map h.orow hM (by rw [hb, e])) (fun e => ?_)
  have := h.ap p (e.trans hb.symm)
  rw [this] at hb; cases hb
 ·
  intro q e
  rcases hf q with e2 | e2
  ·
   exact h.ap q (e2.symm.trans e)
  ·
   have := (h.orow.lt _ (e.symm.trans e2)).2; omega

theorem SevF.blk (h : SevF w0 l r gr gO gM gR gB gl M ra nr rc w O G bl N v f) (b2 : Bool) : SevF w0 l r gr gO gM gR gB gl M ra nr rc (w.setCell ⟨gB, 0, none⟩ (.bool b2)) O G b2 N v f := by
 obtain ⟨es, c, hM⟩ := h.tak.blk
 refine ⟨h.below.trans (below_set h.base.2.1), h.base, set_keep h.bv h.row (by decide), set_keep h.bv h.ov (by decide), ?_, h.tak.keep ?_ fun p b e => ?_, h.ap, set_keep h.bv h.mv (by decide), set_keep h.bv h.rv (by decide), set_var h.bv, set_keep h.bv h.lev (by decide)⟩
 ·
  refine row_of_heap h.orow fun r hr => ?_
  obtain ⟨cur, hh⟩ := own_type h.orow hr
  rw [set_keep h.bv hh (by decide), hh]
 ·
  exact set_keep_map h.bv hM
 ·
  obtain ⟨cur, hh⟩ := own_type (h.tak.rows p) e
  rw [set_keep h.bv hh (by decide), hh]
end
end Go.Proofs.YtmcdhggnpfhlmaaGreat
