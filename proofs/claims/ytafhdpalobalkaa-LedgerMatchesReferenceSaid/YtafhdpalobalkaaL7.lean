/- ledger: an entry of a map of the call's own is taken up, and stored into: the law. -/
import Derived.WideKeyEntry
import Derived.Test.YtafhdpalobalkaaL6
namespace Go.Proofs.Ytafhdpalobalkaa
open Go.RowKit Go.IntWalk Go.Maps Go.ChangeMaps Go.MapKept Go.WideElems

section
variable {H : Type} {P : Program} {k : TypeId} {R : Value → Option (DataW H × List MemPlace)} {w : World} {b n : Nat} {D : DataW H}

/-- What a block is good for hangs on the block alone. -/
theorem owns_of_heap {w w' : World} (h : w.ownsMap P k R b n D) (e : w'.heap[b]? = w.heap[b]?) : w'.ownsMap P k R b n D := by
  obtain ⟨es, clock, hb, r⟩ := h
  exact ⟨es, clock, e.trans hb, r⟩

theorem set_at {w : World} {o o' : Obj} (h : w.heap[b]? = some o) : (setBlock w b o').heap[b]? = some o' := by
  have hl := lt_of_block h
  simp [setBlock, hl]

theorem set_grown (w : World) (b : Nat) (o : Obj) : w.grownBy (setBlock w b o) (some b) :=
  ⟨rfl, rfl, rfl, by simp [setBlock], fun i _ hi => by
    have : b ≠ i := fun e => hi (by rw [e])
    simp [setBlock, this]⟩

/-- An entry is taken up: the block is some block X now; behind a store into it the map reads as one with the key put. -/
theorem own_entry (h : w.ownsMap P k R b n D) (K : Keyed P k) {t e : TypeId} (ht : P.underlying t = some (.map k e)) {z : Value} (hz : ∀ u : World, (zeroValue e).run P u = .ok z u) (hn : n < maxLen) {key : Value} {kl : Lit} (hkey : keyOf P k key = some kl) :
    ∃ (v0 : Value) (st : Nat) (X : Obj), (Instr.mapEntry t (.map (some b)) key).run P w = .ok (.tuple #[v0, goInt st]) (setBlock w b X) ∧
      (∀ (val : Value) (d : DataW H) (ps : List MemPlace), R val = some (d, ps) → ∃ Y : Obj, (∀ w2 : World, w2.heap[b]? = some X → (Instr.entryStore t (.map (some b)) (goInt st) val).run P w2 = .ok () (setBlock w2 b Y)) ∧
        (setBlock w b Y).ownsMap P k R b (n + 1) (D.put kl d)) ∧
      ∀ (zd : DataW H) (pz : List MemPlace), R z = some (zd, pz) → (setBlock w b X).ownsMap P k R b (n + 1) D ∨ ((setBlock w b X).ownsMap P k R b (n + 1) (D.put kl zd) ∧ D.atKey kl zd = zd) := by
  have hlook := fun zd pz (hv : R z = some (zd, pz)) => h.lookup K ht (hz w) hv hkey
  have hself := h.mono (Nat.le_succ n)
  have hup := fun val d ps (hv : R val = some (d, ps)) => h.update K ht hn hkey hv
  obtain ⟨es, clock, hb, F, _, _⟩ := h
  obtain ⟨hst, hnd, _⟩ := F.stamped
  rcases K.find w hkey es.toList F.keys with ⟨hf, hno⟩ | ⟨j, x, hf, hx, hxk⟩
  · refine ⟨z, clock, .map (es.push ⟨key, z, clock⟩) (clock + 1), ?_, fun val d ps hv => ⟨.map (es.push ⟨key, val, clock⟩) (clock + 1), fun w2 hw2 => ?_, ?_⟩, fun zd pz hv => Or.inr ⟨?_, ?_⟩⟩
    · simp [Instr.mapEntry, run_underlying ht, MapKept.run_getObj_map hb, K.check w false hkey, hf, hz, MapKept.run_setObj_map _ hb, Result.andThen, setBlock]
    · have hnew : ((es.push ⟨key, z, clock⟩).toList.map (·.born)).Nodup := by
        rw [Array.toList_push, List.map_append, List.map_singleton, List.nodup_append]
        refine ⟨hnd, by simp, fun a ha c hc hac => ?_⟩
        rw [List.mem_singleton] at hc
        obtain ⟨y, hy, rfl⟩ := List.mem_map.mp ha
        have := hst y hy
        rw [hac, hc] at this
        exact Nat.lt_irrefl _ this
      have hat : (es.push ⟨key, z, clock⟩).toList[es.size]? = some ⟨key, z, clock⟩ := by simp
      have hidx := (findIdx_arr (es.push ⟨key, z, clock⟩) (fun e => ((e.born : Nat) : Int) == ((clock : Nat) : Int))).trans (findIdx_born hnew hat)
      have hmod : (es.push ⟨key, z, clock⟩).modify es.size (fun e => { e with val := val }) = es.push ⟨key, val, clock⟩ := by
        apply Array.ext'
        have := modify_last (fun e : MapEntry => { e with val := val }) ⟨key, z, clock⟩ es.toList
        rw [Array.toList_modify, Array.toList_push, Array.toList_push, ← this]
        simp
      simp [Instr.entryStore, MapKept.run_getObj_map hw2, asInt, asIntOf, goInt, hidx, hmod, MapKept.run_setObj_map _ hw2, Result.andThen, setBlock]
    · obtain ⟨w', hrun, ho, _⟩ := hup val d ps hv
      have : (Instr.mapUpdate t (.map (some b)) key val).run P w = .ok () (setBlock w b (.map (es.push ⟨key, val, clock⟩) (clock + 1))) := by
        simp [Instr.mapUpdate, run_underlying ht, MapKept.run_getObj_map hb, K.check w false hkey, hf, MapKept.run_setObj_map _ hb, Result.andThen, setBlock]
      rw [this] at hrun
      cases hrun
      exact ho
    · obtain ⟨w', hrun, ho, _⟩ := hup z zd pz hv
      have : (Instr.mapUpdate t (.map (some b)) key z).run P w = .ok () (setBlock w b (.map (es.push ⟨key, z, clock⟩) (clock + 1))) := by
        simp [Instr.mapUpdate, run_underlying ht, MapKept.run_getObj_map hb, K.check w false hkey, hf, MapKept.run_setObj_map _ hb, Result.andThen, setBlock]
      rw [this] at hrun
      cases hrun
      exact ho
    · obtain ⟨v, ps, hrun, hv2⟩ := hlook zd pz hv
      have : (Instr.lookup t (.map (some b)) key false).run P w = .ok z w := by
        simp [Instr.lookup, run_underlying ht, MapKept.run_getObj_map hb, K.check w es.isEmpty hkey, hf, hz, Result.andThen]
      rw [this] at hrun
      cases hrun
      rw [hv] at hv2
      simp only [Option.some.injEq, Prod.mk.injEq] at hv2
      exact hv2.1.symm
  · have hj : es[j]? = some x := by simpa using hx
    have hsame : es.modify j (fun e => { e with key := key }) = es := by
      apply Array.ext'
      rw [Array.toList_modify, modify_eq_set _ _ _ _ hx, show ({ x with key := key } : MapEntry) = x from by rw [← hxk]]
      exact set_self _ _ _ hx
    refine ⟨x.val, x.born, .map es clock, ?_, fun val d ps hv => ⟨.map (es.modify j (fun e => { e with key := key, val := val })) clock, fun w2 hw2 => ?_, ?_⟩, fun zd pz hv => Or.inl (owns_of_heap hself (by rw [set_at hb, hb]))⟩
    · simp [Instr.mapEntry, run_underlying ht, MapKept.run_getObj_map hb, K.check w false hkey, hf, hj, hxk, K.stays w hkey, hsame, MapKept.run_setObj_map _ hb, Result.andThen, setBlock]
    · have hidx := (findIdx_arr es (fun e => ((e.born : Nat) : Int) == ((x.born : Nat) : Int))).trans (findIdx_born hnd hx)
      have hmod : es.modify j (fun e => { e with val := val }) = es.modify j (fun e => { e with key := key, val := val }) := by
        apply Array.ext'
        rw [Array.toList_modify, Array.toList_modify, modify_eq_set _ _ _ _ hx, modify_eq_set _ _ _ _ hx, ← hxk]
      simp [Instr.entryStore, MapKept.run_getObj_map hw2, asInt, asIntOf, goInt, hidx, hmod, MapKept.run_setObj_map _ hw2, Result.andThen, setBlock]
    · obtain ⟨w', hrun, ho, _⟩ := hup val d ps hv
      have : (Instr.mapUpdate t (.map (some b)) key val).run P w = .ok () (setBlock w b (.map (es.modify j (fun e => { e with key := key, val := val })) clock)) := by
        simp [Instr.mapUpdate, run_underlying ht, MapKept.run_getObj_map hb, K.check w false hkey, hf, hj, hxk, K.stays w hkey, MapKept.run_setObj_map _ hb, Result.andThen, setBlock]
      rw [this] at hrun
      cases hrun
      exact ho
end

theorem BalM.of_heap {w w' : World} {M N : Nat} {f : AccT → Int} (h : BalM w M N f) (e : w'.heap[M]? = w.heap[M]?) : BalM w' M N f := let ⟨D, h, h2⟩ := h; ⟨D, owns_of_heap h e, h2⟩

theorem plus_zero (f : AccT → Int) (a : AccT) : plusF f (a, 0) = f := by
  funext x
  unfold plusF
  split <;> simp

/-- 'next[a] += c': the entry is taken up, and stored into. -/
theorem BalM.entry {w : World} {M N : Nat} {f : AccT → Int} (h : BalM w M N f) (a : AccT) (ha : WfA a) (hN : N < maxLen) :
    ∃ (v0 : Value) (st : Nat) (X : Obj), (Instr.mapEntry 52 (.map (some M)) (accV a)).run Try.prog w = .ok (.tuple #[v0, goInt st]) (setBlock w M X) ∧ BalM (setBlock w M X) M (N + 1) f ∧
      ∀ c : Int, (Lit.int .i64 (f a + c)).wf = true → ∃ Y : Obj, (∀ w2 : World, w2.heap[M]? = some X → (Instr.entryStore 52 (.map (some M)) (goInt st) (.int .i64 (f a + c))).run Try.prog w2 = .ok () (setBlock w2 M Y)) ∧
        BalM (setBlock w M Y) M (N + 1) (plusF f (a, c)) := by
  obtain ⟨D, h, h2⟩ := h
  obtain ⟨v0, st, X, e1, e2, e3⟩ := own_entry h lawA Try.underlying52 zeroI hN (key_acc a ha)
  have h0 : (Lit.int .i64 0).wf = true := by decide
  refine ⟨v0, st, X, e1, ?_, fun c hc => ?_⟩
  · rcases e3 (.lit (.int .i64 0)) [] (plainElem_int Try.underlying3 h0) with h3 | ⟨h3, h4⟩
    · exact ⟨D, h3, h2⟩
    · have hf : f a = 0 := by
        rw [h2.val a ha] at h4
        simpa using h4
      have := h2.put (a, 0) ha
      rw [plus_zero] at this
      dsimp only at this
      rw [hf] at this
      exact ⟨_, h3, this⟩
  · obtain ⟨Y, y1, y2⟩ := e2 (.int .i64 (f a + c)) _ [] (plainElem_int Try.underlying3 hc)
    exact ⟨Y, y1, _, y2, h2.put (a, c) ha⟩
end Go.Proofs.Ytafhdpalobalkaa
