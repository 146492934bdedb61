/- hall: points as keys; a map from points to lists of numbers. -/
import Derived.Test.YtmcdhggnpfhlmaaQHCB13
import Derived.Test.YtmcdhggnpfhlmaaQHCB19
import Derived.Maps.Keyed
import Derived.Maps.Own
import Derived.Maps.OwnSet
import Derived.Maps.Views
import Derived.Maps.RangeWalk
import Derived.DeepKeys4
import Derived.WideKeyEntry

namespace Go.Proofs.Ytmcdhggnpfhlmaa
open Go.RowKit Go.IntWalk Go.Maps Go.WideMaps Go.ChangeMaps Go.MapKept Go.WideElems
set_option linter.unusedSimpArgs false
set_option linter.unusedVariables false

abbrev PtT := Int × Int
def ptV (p : PtT) : Value := .agg #[.int .i64 p.1, .int .i64 p.2]
def ptL (p : PtT) : Lit := .string (keyBytes [.int .i64 p.1, .int .i64 p.2])
def WfP (p : PtT) : Prop := (Lit.int .i64 p.1).wf = true ∧ (Lit.int .i64 p.2).wf = true

theorem laidOut : laidOutB Try.prog = true := by kernel_rfl
theorem lawP : Keyed Try.prog 23 := Keyed.of_law (deep_law_laid laidOut (m := 20) (by decide) (by decide +kernel) (by kernel_rfl) (by kernel_rfl))

theorem key_pt (p : PtT) (h : WfP p) : keyOf Try.prog 23 (ptV p) = some (ptL p) := by
  have h1 := h.1
  have h2 := h.2
  have hkt : Try.prog.keyType 23 = true := by kernel_rfl
  have ho : Try.prog.cellsOf 23 = 2 := by kernel_rfl
  have hi : Try.prog.cellsOf 3 = 1 := by kernel_rfl
  obtain ⟨m, hm⟩ : ∃ m, Try.prog.types.size = m + 1 := ⟨_, rfl⟩
  unfold keyOf ptV ptL
  simp only [Try.underlying23]
  rw [if_pos (by simp [hkt, Value.formed, Try.underlying23, ho]), hm]
  unfold Program.keyLits
  simp only [Try.underlying23, Value.cells]
  simp [ho, hi, Program.keyLits, Try.underlying3, h1, h2]

theorem ptL_inj {a b : PtT} (ha : WfP a) (hb : WfP b) (h : ptL a = ptL b) : a = b := by
  have := lawP.inj (key_pt a ha) (by rw [h]; exact key_pt b hb)
  unfold ptV at this
  simp only [Value.agg.injEq, Array.mk.injEq, List.cons.injEq, Value.int.injEq, true_and, and_true] at this
  exact Prod.ext this.1 this.2
theorem ptL_is (a : PtT) : WideAt.IsKeyLit (ptL a) := by unfold ptL; trivial

/-- What a map of lists holds. -/
structure TakD (D : DataW Value) (f : PtT → Value) : Prop where
  isMap : IsMap D
  val : ∀ a, WfP a → D.atKey (ptL a) (.held (.slice none 0 0)) = .held (f a)
theorem TakD.empty : TakD (.map []) (fun _ => .slice none 0 0) := ⟨isMap_empty, fun a _ => by simp [DataW.atKey]⟩
theorem TakD.put {D : DataW Value} {f : PtT → Value} (h : TakD D f) (p : PtT) (hp : WfP p) (v : Value) : TakD (D.put (ptL p) (.held v)) (fun q => if q = p then v else f q) := by
  refine ⟨h.isMap.put _ _, fun a ha => ?_⟩
  by_cases e : a = p
  · rw [if_pos e, e, atKey_put_same h.isMap (ptL_is _)]
  · rw [if_neg e, atKey_put_other (fun e2 => e (ptL_inj ha hp e2)), h.val a ha]

section
variable {H : Type} {P : Program} {k : TypeId} {R : Value → Option (DataW H × List MemPlace)} {w : World} {b n : Nat} {D : DataW H}

/-- What a block is good for hangs on the block alone. -/
theorem owns_of_heap {w w' : World} (h : w.ownsMap P k R b n D) (e : w'.heap[b]? = w.heap[b]?) : w'.ownsMap P k R b n D := by
  obtain ⟨es, clock, hb, r⟩ := h
  exact ⟨es, clock, e.trans hb, r⟩

theorem set_at {w : World} {o o' : Obj} (h : w.heap[b]? = some o) : (setBlock w b o').heap[b]? = some o' := by
  have hl := lt_of_block h
  simp [setBlock, hl]

theorem set_grown (w : World) (b : Nat) (o : Obj) : w.grownBy (setBlock w b o) (some b) :=
  ⟨rfl, rfl, rfl, by simp [setBlock], fun i _ hi => by
    have : b ≠ i := fun e => hi (by rw [e])
    simp [setBlock, this]⟩

/-- An entry is taken up: the block is some block X now; behind a store into it the map reads as one with the key put. -/
theorem own_entry (h : w.ownsMap P k R b n D) (K : Keyed P k) {t e : TypeId} (ht : P.underlying t = some (.map k e)) {z : Value} (hz : ∀ u : World, (zeroValue e).run P u = .ok z u) (hn : n < maxLen) {key : Value} {kl : Lit} (hkey : keyOf P k key = some kl) :
    ∃ (v0 : Value) (st : Nat) (X : Obj), (Instr.mapEntry t (.map (some b)) key).run P w = .ok (.tuple #[v0, goInt st]) (setBlock w b X) ∧
      (∀ (val : Value) (d : DataW H) (ps : List MemPlace), R val = some (d, ps) → ∃ Y : Obj, (∀ w2 : World, w2.heap[b]? = some X → (Instr.entryStore t (.map (some b)) (goInt st) val).run P w2 = .ok () (setBlock w2 b Y)) ∧
        (setBlock w b Y).ownsMap P k R b (n + 1) (D.put kl d)) ∧
      (∀ (zd : DataW H) (pz : List MemPlace), R z = some (zd, pz) → ∃ ps, R v0 = some (D.atKey kl zd, ps)) ∧
      ∀ (zd : DataW H) (pz : List MemPlace), R z = some (zd, pz) → (setBlock w b X).ownsMap P k R b (n + 1) D ∨ ((setBlock w b X).ownsMap P k R b (n + 1) (D.put kl zd) ∧ D.atKey kl zd = zd) := by
  have hlook := fun zd pz (hv : R z = some (zd, pz)) => h.lookup K ht (hz w) hv hkey
  have hself := h.mono (Nat.le_succ n)
  have hup := fun val d ps (hv : R val = some (d, ps)) => h.update K ht hn hkey hv
  obtain ⟨es, clock, hb, F, _, _⟩ := h
  obtain ⟨hst, hnd, _⟩ := F.stamped
  rcases K.find w hkey es.toList F.keys with ⟨hf, hno⟩ | ⟨j, x, hf, hx, hxk⟩
  · refine ⟨z, clock, .map (es.push ⟨key, z, clock⟩) (clock + 1), ?_, fun val d ps hv => ⟨.map (es.push ⟨key, val, clock⟩) (clock + 1), fun w2 hw2 => ?_, ?_⟩, fun zd pz hv => ?_, fun zd pz hv => Or.inr ⟨?_, ?_⟩⟩
    · simp [Instr.mapEntry, run_underlying ht, MapKept.run_getObj_map hb, K.check w false hkey, hf, hz, MapKept.run_setObj_map _ hb, Result.andThen, setBlock]
    · have hnew : ((es.push ⟨key, z, clock⟩).toList.map (·.born)).Nodup := by
        rw [Array.toList_push, List.map_append, List.map_singleton, List.nodup_append]
        refine ⟨hnd, by simp, fun a ha c hc hac => ?_⟩
        rw [List.mem_singleton] at hc
        obtain ⟨y, hy, rfl⟩ := List.mem_map.mp ha
        have := hst y hy
        rw [hac, hc] at this
        exact Nat.lt_irrefl _ this
      have hat : (es.push ⟨key, z, clock⟩).toList[es.size]? = some ⟨key, z, clock⟩ := by simp
      have hidx := (findIdx_arr (es.push ⟨key, z, clock⟩) (fun e => ((e.born : Nat) : Int) == ((clock : Nat) : Int))).trans (findIdx_born hnew hat)
      have hmod : (es.push ⟨key, z, clock⟩).modify es.size (fun e => { e with val := val }) = es.push ⟨key, val, clock⟩ := by
        apply Array.ext'
        have := modify_last (fun e : MapEntry => { e with val := val }) ⟨key, z, clock⟩ es.toList
        rw [Array.toList_modify, Array.toList_push, Array.toList_push, ← this]
        simp
      simp [Instr.entryStore, MapKept.run_getObj_map hw2, asInt, asIntOf, goInt, hidx, hmod, MapKept.run_setObj_map _ hw2, Result.andThen, setBlock]
    · obtain ⟨w', hrun, ho, _⟩ := hup val d ps hv
      have : (Instr.mapUpdate t (.map (some b)) key val).run P w = .ok () (setBlock w b (.map (es.push ⟨key, val, clock⟩) (clock + 1))) := by
        simp [Instr.mapUpdate, run_underlying ht, MapKept.run_getObj_map hb, K.check w false hkey, hf, MapKept.run_setObj_map _ hb, Result.andThen, setBlock]
      rw [this] at hrun
      cases hrun
      exact ho
    · obtain ⟨v, ps, hrun, hv2⟩ := hlook zd pz hv
      have : (Instr.lookup t (.map (some b)) key false).run P w = .ok z w := by
        simp [Instr.lookup, run_underlying ht, MapKept.run_getObj_map hb, K.check w es.isEmpty hkey, hf, hz, Result.andThen]
      rw [this] at hrun
      cases hrun
      exact ⟨ps, hv2⟩
    · obtain ⟨w', hrun, ho, _⟩ := hup z zd pz hv
      have : (Instr.mapUpdate t (.map (some b)) key z).run P w = .ok () (setBlock w b (.map (es.push ⟨key, z, clock⟩) (clock + 1))) := by
        simp [Instr.mapUpdate, run_underlying ht, MapKept.run_getObj_map hb, K.check w false hkey, hf, MapKept.run_setObj_map _ hb, Result.andThen, setBlock]
      rw [this] at hrun
      cases hrun
      exact ho
    · obtain ⟨v, ps, hrun, hv2⟩ := hlook zd pz hv
      have : (Instr.lookup t (.map (some b)) key false).run P w = .ok z w := by
        simp [Instr.lookup, run_underlying ht, MapKept.run_getObj_map hb, K.check w es.isEmpty hkey, hf, hz, Result.andThen]
      rw [this] at hrun
      cases hrun
      rw [hv] at hv2
      simp only [Option.some.injEq, Prod.mk.injEq] at hv2
      exact hv2.1.symm
  · have hj : es[j]? = some x := by simpa using hx
    have hsame : es.modify j (fun e => { e with key := key }) = es := by
      apply Array.ext'
      rw [Array.toList_modify, modify_eq_set _ _ _ _ hx, show ({ x with key := key } : MapEntry) = x from by rw [← hxk]]
      exact set_self _ _ _ hx
    refine ⟨x.val, x.born, .map es clock, ?_, fun val d ps hv => ⟨.map (es.modify j (fun e => { e with key := key, val := val })) clock, fun w2 hw2 => ?_, ?_⟩, fun zd pz hv => ?_, fun zd pz hv => Or.inl (owns_of_heap hself (by rw [set_at hb, hb]))⟩
    · simp [Instr.mapEntry, run_underlying ht, MapKept.run_getObj_map hb, K.check w false hkey, hf, hj, hxk, K.stays w hkey, hsame, MapKept.run_setObj_map _ hb, Result.andThen, setBlock]
    · have hidx := (findIdx_arr es (fun e => ((e.born : Nat) : Int) == ((x.born : Nat) : Int))).trans (findIdx_born hnd hx)
      have hmod : es.modify j (fun e => { e with val := val }) = es.modify j (fun e => { e with key := key, val := val }) := by
        apply Array.ext'
        rw [Array.toList_modify, Array.toList_modify, modify_eq_set _ _ _ _ hx, modify_eq_set _ _ _ _ hx, ← hxk]
      simp [Instr.entryStore, MapKept.run_getObj_map hw2, asInt, asIntOf, goInt, hidx, hmod, MapKept.run_setObj_map _ hw2, Result.andThen, setBlock]
    · obtain ⟨w', hrun, ho, _⟩ := hup val d ps hv
      have : (Instr.mapUpdate t (.map (some b)) key val).run P w = .ok () (setBlock w b (.map (es.modify j (fun e => { e with key := key, val := val })) clock)) := by
        simp [Instr.mapUpdate, run_underlying ht, MapKept.run_getObj_map hb, K.check w false hkey, hf, hj, hxk, K.stays w hkey, MapKept.run_setObj_map _ hb, Result.andThen, setBlock]
      rw [this] at hrun
      cases hrun
      exact ho
    · obtain ⟨v, ps, hrun, hv2⟩ := hlook zd pz hv
      have : (Instr.lookup t (.map (some b)) key false).run P w = .ok x.val w := by
        simp [Instr.lookup, run_underlying ht, MapKept.run_getObj_map hb, K.check w es.isEmpty hkey, hf, hj, Result.andThen]
      rw [this] at hrun
      cases hrun
      exact ⟨ps, hv2⟩
end

/-- Block M is a map from points to lists of numbers, of the call's own, the lists from block B on. -/
structure TakenF (w : World) (B M N : Nat) (f : PtT → Value) (G : PtT → List Int) : Prop where
  map : ∃ D : DataW Value, w.ownsMap Try.prog 23 RV M N D ∧ TakD D f
  rows : ∀ p, w.ownsRow B 3 1 (f p) (G p).length ((G p).map (Value.int .i64))
  apart : ∀ p q, p ≠ q → (f p).ownBlock = (f q).ownBlock → (f p).ownBlock = none
def TakenAt (w : World) (B M N : Nat) (G : PtT → List Int) : Prop := ∃ f, TakenF w B M N f G

theorem nil_row {w : World} {B : Nat} {T : TypeId} {k : Nat} : w.ownsRow B T k (.slice none 0 0) 0 [] := ⟨by simp, Or.inl ⟨rfl, rfl⟩⟩
theorem TakenAt.made (w : World) (B : Nat) : TakenAt (w.alloc (.map #[] 0)) B w.heap.size 0 (fun _ => []) :=
  ⟨fun _ => .slice none 0 0, ⟨_, World.ownsMap_made _ _ _ _, TakD.empty⟩, fun _ => nil_row, fun _ _ _ _ => rfl⟩

theorem TakenF.blk {w : World} {B M N : Nat} {f : PtT → Value} {G : PtT → List Int} (h : TakenF w B M N f G) : ∃ es clock, w.heap[M]? = some (.map es clock) := let ⟨⟨_, h, _⟩, _, _⟩ := h; let ⟨es, c, e, _⟩ := h; ⟨es, c, e⟩
theorem row_ne_map {w : World} {B n M k : Nat} {T : TypeId} {v : Value} {xs : List Value} {es : Array MapEntry} {c : Nat} (h : w.ownsRow B T k v n xs) (hM : w.heap[M]? = some (.map es c)) : v.ownBlock ≠ some M := by
  intro e
  rcases h.2 with ⟨rfl, _⟩ | ⟨g, cap, cur, rfl, _, hg, _⟩
  · cases e
  · cases e
    rw [hM] at hg
    cases hg
/-- Every block that it is made of stays. -/
theorem TakenF.keep {w w' : World} {B M N : Nat} {f : PtT → Value} {G : PtT → List Int} (h : TakenF w B M N f G) (hM : w'.heap[M]? = w.heap[M]?) (hr : ∀ p b, (f p).ownBlock = some b → w'.heap[b]? = w.heap[b]?) : TakenF w' B M N f G :=
  ⟨let ⟨D, a, b⟩ := h.map; ⟨D, owns_of_heap a hM, b⟩, fun p => row_of_heap (h.rows p) fun r hr' => hr p r hr', h.apart⟩
theorem TakenF.below {w w' : World} {B M N : Nat} {f : PtT → Value} {G : PtT → List Int} (h : TakenF w B M N f G) (hb : Below w.heap.size w w') : TakenF w' B M N f G := by
  obtain ⟨es, c, hM⟩ := h.blk
  exact h.keep (hb.block M (lt_of_block hM)) fun p b e => hb.block b ((h.rows p).lt b e).2
/-- A block of another kind or place is written. -/
theorem TakenF.grown {w w' : World} {B M N : Nat} {f : PtT → Value} {G : PtT → List Int} {o : Option Nat} (h : TakenF w B M N f G) (hg : w.grownBy w' o) (hM : o ≠ some M) (hr : ∀ p, (f p).ownBlock = o → o = none) : TakenF w' B M N f G := by
  obtain ⟨es, c, hMb⟩ := h.blk
  refine h.keep (hg.block M (lt_of_block hMb) (fun e => hM e.symm)) fun p b e => hg.block b ((h.rows p).lt b e).2 (fun e2 => ?_)
  have := hr p (e.trans e2)
  rw [this] at e2
  cases e2

theorem TakenF.look {w : World} {B M N : Nat} {f : PtT → Value} {G : PtT → List Int} (h : TakenF w B M N f G) (p : PtT) (hp : WfP p) :
    (Instr.lookup 106 (.map (some M)) (ptV p) false).run Try.prog w = .ok (f p) w := by
  obtain ⟨D, h1, h2⟩ := h.map
  obtain ⟨v, ps, hrun, hv⟩ := h1.lookup lawP Try.underlying106 (z := .slice none 0 0) (by kernel_rfl) (zd := .held (.slice none 0 0)) (zp := []) rfl (key_pt p hp)
  rw [h2.val p hp] at hv
  rw [hrun, RV_inv hv]
theorem zeroSl (w : World) : (zeroValue 102).run Try.prog w = .ok (.slice none 0 0) w := by kernel_rfl

/-- An entry is taken up, and stored into. -/
theorem TakenF.entry {w : World} {B M N : Nat} {f : PtT → Value} {G : PtT → List Int} (h : TakenF w B M N f G) (p : PtT) (hp : WfP p) (hN : N < maxLen) :
    ∃ (v0 : Value) (st : Nat) (X : Obj), (Instr.mapEntry 106 (.map (some M)) (ptV p)).run Try.prog w = .ok (.tuple #[v0, goInt st]) (setBlock w M X) ∧ v0 = f p ∧ (∃ es c, X = .map es c) ∧ TakenF (setBlock w M X) B M (N + 1) f G ∧
      ∀ val : Value, ∃ (Y : Obj) (D : DataW Value), (∀ w2 : World, w2.heap[M]? = some X → (Instr.entryStore 106 (.map (some M)) (goInt st) val).run Try.prog w2 = .ok () (setBlock w2 M Y)) ∧
        (setBlock w M Y).ownsMap Try.prog 23 RV M (N + 1) D ∧ TakD D (fun q => if q = p then val else f q) := by
  obtain ⟨es, c, hMb⟩ := h.blk
  have hrows := h.rows
  obtain ⟨D, h1, h2⟩ := h.map
  obtain ⟨v0, st, X, e1, e2, e0, e3⟩ := own_entry h1 lawP Try.underlying106 zeroSl hN (key_pt p hp)
  have hX : ∃ es c, X = .map es c := by
    have hs := set_at (o' := X) hMb
    rcases e3 (.held (.slice none 0 0)) [] rfl with ⟨es, c, q, _⟩ | ⟨⟨es, c, q, _⟩, _⟩ <;>
    · rw [hs] at q
      exact ⟨es, c, by simpa using q⟩
  have hv0 : v0 = f p := by
    obtain ⟨ps, hv⟩ := e0 (.held (.slice none 0 0)) [] rfl
    rw [h2.val p hp] at hv
    exact RV_inv hv
  refine ⟨v0, st, X, e1, hv0, hX, ⟨?_, fun q => row_of_heap (hrows q) fun r hr => (set_grown w M X).block r ((hrows q).lt r hr).2 (fun e => ?_), h.apart⟩, fun val => ?_⟩
  · rcases e3 (.held (.slice none 0 0)) [] rfl with h3 | ⟨h3, h4⟩
    · exact ⟨D, h3, h2⟩
    · have hf : f p = .slice none 0 0 := by
        rw [h2.val p hp] at h4
        simpa using h4
      have hput := h2.put p hp (.slice none 0 0)
      have : (fun q => if q = p then Value.slice none 0 0 else f q) = f := by
        funext q
        by_cases e : q = p
        · rw [if_pos e, e, hf]
        · rw [if_neg e]
      rw [this] at hput
      exact ⟨_, h3, hput⟩
  · exact row_ne_map (hrows q) hMb (hr.trans e)
  · obtain ⟨Y, y1, y2⟩ := e2 val (.held val) [] rfl
    exact ⟨Y, _, y1, y2, h2.put p hp val⟩
theorem flat_int (l : List Int) : flat IntE l = l.map (Value.int .i64) := by
  induction l with
  | nil => rfl
  | cons x l ih =>
    unfold flat at *
    rw [List.flatMap_cons, ih]
    rfl

theorem TakenF.lt {w : World} {B M N : Nat} {f : PtT → Value} {G : PtT → List Int} (h : TakenF w B M N f G) (p : PtT) {b : Nat} (e : (f p).ownBlock = some b) : b < w.heap.size := ((h.rows p).lt b e).2

/-- 'taken[p] = append(taken[p], n)'. -/
theorem TakenF.pushed {w : World} {B M N : Nat} {f : PtT → Value} {G : PtT → List Int} (h : TakenF w B M N f G) (p : PtT) (hp : WfP p) (hN : N < maxLen) (gs : Nat) (n : Int) (hs : w.heap[gs]? = some (.cells #[.int .i64 n] 3 (0, 0))) (hl : (G p).length < 1000000) (hB : B ≤ w.heap.size) (ty : TypeId) :
    ∃ (st : Nat) (w4 : World) (v' : Value) (w5 w6 : World), (Instr.mapEntry 106 (.map (some M)) (.agg #[.int .i64 p.1, .int .i64 p.2])).run Try.prog w = .ok (.tuple #[f p, goInt st]) w4 ∧
      (Builtin.append_ #[102, 102] ty #[f p, .slice (some ⟨gs, 0, none⟩) 1 1]).run Try.prog w4 = .ok v' w5 ∧ (Instr.entryStore 106 (.map (some M)) (goInt st) v').run Try.prog w5 = .ok () w6 ∧
      (∃ f', TakenF w6 B M (N + 1) f' (fun q => if q = p then G q ++ [n] else G q) ∧ ∀ q, (f' q).ownBlock = (f q).ownBlock ∨ (f' q).ownBlock = some w.heap.size) ∧
      w6.os = w.os ∧ w6.tape = w.tape ∧ w6.output = w.output ∧ w.heap.size ≤ w6.heap.size ∧ ∀ b, b < w.heap.size → b ≠ M → (f p).ownBlock ≠ some b → w6.heap[b]? = w.heap[b]? := by
  obtain ⟨es0, c0, hMb⟩ := h.blk
  obtain ⟨v0, st, X, e1, rfl, ⟨es, c, rfl⟩, h4, hst⟩ := h.entry p hp hN
  have hg4 := set_grown w M (.map es c)
  have hM4 : (setBlock w M (.map es c)).heap[M]? = some (.map es c) := set_at hMb
  have hz4 : (setBlock w M (.map es c)).heap.size = w.heap.size := by simp [setBlock]
  have hgM : gs ≠ M := fun e => by rw [e, hMb] at hs; cases hs
  have hs4 : (setBlock w M (.map es c)).heap[gs]? = some (.cells #[.int .i64 n] 3 (0, 0)) := (hg4.block gs (lt_of_block hs) (by simp; exact hgM)).trans hs
  generalize setBlock w M (.map es c) = w4 at *
  have hu : Rcs IntE w4 (.slice (some ⟨gs, 0, none⟩) 1 1) [n] := ⟨_, 1, rfl, ⟨rfl, fun i hi => ⟨gs, 0, rfl, fun j hj => by
    obtain rfl : i = 0 := by have : i < 1 := hi; omega
    obtain rfl : j = 0 := by omega
    rw [rc_eq _ _ (by simp)]
    exact boxed_cell (j := 0) hs4 rfl⟩⟩, fun e => by cases e⟩
  have hown := h4.rows p
  rw [← flat_int] at hown
  obtain ⟨v', w5, hAPP, ho5, hg5, hob⟩ := append_recs (E := IntE) 102 3 ty Try.underlying102 info_int rfl (by decide) hown hu (by simp; omega) (by omega)
  rw [flat_int, show (G p).length + [n].length = (G p ++ [n]).length from by simp] at ho5
  have hne : (f p).ownBlock ≠ some M := row_ne_map (h4.rows p) hM4
  have hM5 : w5.heap[M]? = some (.map es c) := (hg5.block M (lt_of_block hM4) (fun e => hne e.symm)).trans hM4
  obtain ⟨Y, D, hy1, hy2, hy3⟩ := hst v'
  have hg6 := set_grown w5 M Y
  have hM6 : (setBlock w5 M Y).heap[M]? = some Y := set_at hM5
  refine ⟨st, w4, v', w5, setBlock w5 M Y, e1, hAPP, hy1 w5 hM5, ⟨fun q => if q = p then v' else f q, ⟨⟨D, ?_, hy3⟩, fun q => ?_, fun q r hqr e => ?_⟩, fun q => ?_⟩, hg6.os.trans (hg5.os.trans hg4.os), hg6.tape.trans (hg5.tape.trans hg4.tape), hg6.output.trans (hg5.output.trans hg4.output), by have := hg5.size; have := hg6.size; omega, fun b hb hbM hbf => ?_⟩
  · exact owns_of_heap hy2 (by rw [hM6, set_at hMb])
  · by_cases e : q = p
    · simp only [if_pos e]
      subst e
      exact row_of_heap ho5 fun r hr => hg6.block r (ho5.lt r hr).2 (fun e => row_ne_map ho5 hM5 (hr.trans e))
    · simp only [if_neg e]
      have h5 : w5.ownsRow B 3 1 (f q) (G q).length ((G q).map (Value.int .i64)) := row_of_heap (h4.rows q) fun r hr => hg5.block r ((h4.rows q).lt r hr).2 (fun e2 => by
        have := h.apart q p e (hr.trans e2)
        rw [this] at hr
        cases hr)
      exact row_of_heap h5 fun r hr => hg6.block r (h5.lt r hr).2 (fun e => row_ne_map h5 hM5 (hr.trans e))
  · have key : ∀ q, q ≠ p → v'.ownBlock = (f q).ownBlock → v'.ownBlock = none := by
      intro q hq e
      rcases hob with e2 | e2
      · have := h.apart p q (fun h => hq h.symm) (e2.symm.trans e)
        rw [e2, this]
      · have := (h4.rows q).lt _ (e.symm.trans e2)
        omega
    by_cases e1 : q = p
    · simp only [if_pos e1] at e ⊢
      rw [if_neg (fun h => hqr (e1.trans h.symm))] at e
      exact key r (fun h => hqr (e1.trans h.symm)) e
    · simp only [if_neg e1] at e ⊢
      by_cases e2 : r = p
      · rw [if_pos e2] at e
        rw [e]
        exact key q e1 e.symm
      · rw [if_neg e2] at e
        exact h.apart q r hqr e
  · by_cases e : q = p
    · simp only [if_pos e]
      subst e
      rcases hob with e2 | e2
      · exact Or.inl e2
      · rw [hz4] at e2; exact Or.inr e2
    · exact Or.inl (by simp only [if_neg e])
  · rw [hg6.block b (by have := hg5.size; omega) (fun e => hbM (by simpa using e)), hg5.block b (by omega) (fun e => hbf e.symm), hg4.block b hb (fun e => hbM (by simpa using e))]
end Go.Proofs.Ytmcdhggnpfhlmaa
