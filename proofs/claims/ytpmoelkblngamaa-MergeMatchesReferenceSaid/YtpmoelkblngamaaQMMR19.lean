/- merge: groups of scans in a map: what stays; by: the walk. -/
import Derived.Test.YtpmoelkblngamaaQMMR18

namespace Go.Proofs.Ytpmoelkblngamaa
open Go.RowKit Go.IntWalk Go.Maps Go.WideMaps

theorem lawI : Keyed Try.prog 3 := int_keyed Try.underlying3

section
variable {tm te : TypeId} {z : Value} {w : World} {M n : Nat} {E : List EntT} {k : Int}
theorem lookV_ok (ht : Try.prog.underlying tm = some (.map 3 te)) (hz : (zeroValue te).run Try.prog w = .ok z w) (h : w.ownsMap Try.prog 3 RV M n (mapV E)) (hk : (Lit.int .i64 k).wf = true) :
    (Instr.lookup tm (.map (some M)) (.int .i64 k) true).run Try.prog w = .ok (.tuple #[(lookV E k).getD z, .bool (lookV E k).isSome]) w := by
  obtain ⟨v, ps, hrun, hv⟩ := h.look_ok lawI ht hz (zd := .held z) (zp := []) rfl (keyOf_int_mk Try.underlying3 hk)
  rw [mapV_has] at hrun
  rw [mapV_at] at hv
  rw [hrun]
  cases hf : lookV E k with
  | none => rw [hf] at hv; rw [RV_inv hv]; rfl
  | some x => rw [hf] at hv; rw [RV_inv hv]; rfl
theorem lookV_no (ht : Try.prog.underlying tm = some (.map 3 te)) (hz : (zeroValue te).run Try.prog w = .ok z w) (h : w.ownsMap Try.prog 3 RV M n (mapV E)) (hk : (Lit.int .i64 k).wf = true) :
    (Instr.lookup tm (.map (some M)) (.int .i64 k) false).run Try.prog w = .ok ((lookV E k).getD z) w := by
  obtain ⟨v, ps, hrun, hv⟩ := h.lookup lawI ht hz (zd := .held z) (zp := []) rfl (keyOf_int_mk Try.underlying3 hk)
  rw [mapV_at] at hv
  rw [hrun]
  cases hf : lookV E k with
  | none => rw [hf] at hv; rw [RV_inv hv]; rfl
  | some x => rw [hf] at hv; rw [RV_inv hv]; rfl
end

theorem ownsMap_heap {w w' : World} {P : Program} {k : TypeId} {M n : Nat} {D : DataW Value} (h : w.ownsMap P k RV M n D) (e : w'.heap[M]? = w.heap[M]?) : w'.ownsMap P k RV M n D := by
  obtain ⟨es, clock, h1, r⟩ := h
  exact ⟨es, clock, e.trans h1, r⟩
theorem ownsMap_blk {w : World} {P : Program} {k : TypeId} {M n : Nat} {D : DataW Value} (h : w.ownsMap P k RV M n D) : ∃ es clock, w.heap[M]? = some (.map es clock) := let ⟨es, c, e, _⟩ := h; ⟨es, c, e⟩

/-- Groups of scans: the map's block M, the groups' blocks from B on. -/
structure GrpAt (w : World) (B M : Nat) (E : List EntT) (G : Int → List Scn) : Prop where
  asc : AscV E
  map : w.ownsMap Try.prog 3 RV M E.length (mapV E)
  keys : ∀ k, lookV E k = none ↔ G k = []
  rows : ∀ k v, lookV E k = some v → w.ownsRow B 39 6 v (G k).length (flat ScnE (G k))
  apart : ∀ k v k' v', lookV E k = some v → lookV E k' = some v' → k ≠ k' → v.ownBlock ≠ v'.ownBlock

section
variable {w w' w4 w5 : World} {B M n : Nat} {E : List EntT} {G : Int → List Scn}

theorem GrpAt.below (h : GrpAt w B M E G) (hb : Below w.heap.size w w') : GrpAt w' B M E G := by
  obtain ⟨es, c, e⟩ := ownsMap_blk h.map
  exact ⟨h.asc, ownsMap_heap h.map (hb.block M (lt_of_block e)), h.keys, fun k v hk => row_of_heap (h.rows k v hk) fun r hr => hb.block r ((h.rows k v hk).lt r hr).2, h.apart⟩

theorem GrpAt.row (h : GrpAt w B M E G) (k : Int) : w.ownsRow B 39 6 ((lookV E k).getD (.slice none 0 0)) (G k).length (flat ScnE (G k)) := by
  cases hl : lookV E k with
  | none =>
    rw [(h.keys k).mp hl]
    exact ⟨rfl, Or.inl ⟨rfl, rfl⟩⟩
  | some v => exact h.rows k v hl

theorem ne_map {v : Value} {xs : List Value} {es : Array MapEntry} {c : Nat} (h : w.ownsRow B 39 6 v n xs) (hM : w.heap[M]? = some (.map es c)) : v.ownBlock ≠ some M := by
  intro e
  rcases h.2 with ⟨rfl, _⟩ | ⟨g, cap, cur, rfl, _, hg, _⟩
  · cases e
  · cases e
    rw [hM] at hg
    cases hg

theorem GrpAt.map_keep (h : GrpAt w B M E G) (k : Int) (hg : w.grownBy w4 ((lookV E k).getD (.slice none 0 0)).ownBlock) : w4.ownsMap Try.prog 3 RV M E.length (mapV E) := by
  obtain ⟨es, c, hM⟩ := ownsMap_blk h.map
  exact ownsMap_heap h.map (hg.block M (lt_of_block hM) (fun e => ne_map (h.row k) hM e.symm))

theorem putV_len (E : List EntT) (k : Int) (v : Value) : (putV E k v).length ≤ E.length + 1 := by
  induction E with
  | nil => exact Nat.le_refl _
  | cons y E ih =>
    unfold putV
    split
    · exact Nat.le_refl _
    · split
      · exact Nat.le_succ _
      · simp only [List.length_cons]; omega

/-- Behind one more scan of the group k. -/
theorem GrpAt.put (h : GrpAt w B M E G) (k : Int) (s : Scn) {v' : Value} (ho : w4.ownsRow B 39 6 v' ((G k).length + 1) (flat ScnE (G k ++ [s]))) (hg : w.grownBy w4 ((lookV E k).getD (.slice none 0 0)).ownBlock)
    (hv : v'.ownBlock = ((lookV E k).getD (.slice none 0 0)).ownBlock ∨ v'.ownBlock = some w.heap.size)
    (hm : w5.ownsMap Try.prog 3 RV M n ((mapV E).put (.int .i64 k) (.held v'))) (hg5 : w4.grownBy w5 (some M)) : GrpAt w5 B M (putV E k v') (fun j => if j = k then G k ++ [s] else G j) := by
  obtain ⟨es, c, hM⟩ := ownsMap_blk h.map
  have hMw := lt_of_block hM
  rw [mapV_put h.asc] at hm
  have hv0 : ∀ v0, lookV E k = some v0 → (lookV E k).getD (.slice none 0 0) = v0 := fun v0 e => by rw [e]; rfl
  have hM4 : w4.heap[M]? = some (.map es c) := by
    refine (hg.block M hMw (fun e => ?_)).trans hM
    exact ne_map (h.row k) hM e.symm
  have hold : ∀ j v, j ≠ k → lookV E j = some v → w5.ownsRow B 39 6 v (G j).length (flat ScnE (G j)) ∧ (∀ r, v.ownBlock = some r → r < w.heap.size) ∧ v.ownBlock ≠ ((lookV E k).getD (.slice none 0 0)).ownBlock := by
    intro j v hj hl
    have hr := h.rows j v hl
    have hne : ∀ r, v.ownBlock = some r → ((lookV E k).getD (.slice none 0 0)).ownBlock ≠ some r := by
      intro r hr' e
      cases hk : lookV E k with
      | none => rw [hk] at e; cases e
      | some v0 =>
        rw [hk] at e
        exact h.apart j v k v0 hl hk hj (hr'.trans e.symm)
    have h4 := row_of_heap hr (w' := w4) fun r hr' => hg.block r (hr.lt r hr').2 (fun e => hne r hr' e.symm)
    have h5 := row_of_heap h4 (w' := w5) fun r hr' => hg5.block r (h4.lt r hr').2 (fun e => ne_map h4 hM4 (by rw [hr', ← e]))
    refine ⟨h5, fun r hr' => (hr.lt r hr').2, fun e => ?_⟩
    cases hb : v.ownBlock with
    | none =>
      rcases hr.2 with ⟨_, h0⟩ | ⟨g, cap, cur, rfl, _⟩
      · have : G j = [] := List.length_eq_zero_iff.mp h0
        rw [← h.keys, hl] at this
        cases this
      · cases hb
    | some r => rw [hb] at e; exact hne r hb e.symm
  have hnew : w5.ownsRow B 39 6 v' ((G k).length + 1) (flat ScnE (G k ++ [s])) := row_of_heap ho fun r hr => hg5.block r (ho.lt r hr).2 (fun e => ne_map ho hM4 (by rw [hr, ← e]))
  refine ⟨putV_asc h.asc k v', tightV hm, fun j => ?_, fun j v hl => ?_, fun j v j' u hl hl' hne => ?_⟩
  · rw [look_put h.asc]
    by_cases e : j = k
    · rw [if_pos e, if_pos e]; simp
    · rw [if_neg e, if_neg e]; exact h.keys j
  · rw [look_put h.asc] at hl
    by_cases e : j = k
    · rw [if_pos e] at hl
      cases hl
      simp only [if_pos e]
      rw [List.length_append]
      exact hnew
    · rw [if_neg e] at hl
      simp only [if_neg e]
      exact (hold j v e hl).1
  · rw [look_put h.asc] at hl hl'
    have key : ∀ j v, j ≠ k → lookV E j = some v → v.ownBlock ≠ v'.ownBlock := by
      intro j v hj hl e
      obtain ⟨_, h2, h3⟩ := hold j v hj hl
      rcases hv with e2 | e2
      · exact h3 (e.trans e2)
      · have := h2 _ (e.trans e2); omega
    by_cases e : j = k
    · rw [if_pos e] at hl
      cases hl
      rw [if_neg (fun e' => hne (e.trans e'.symm))] at hl'
      exact (key j' u (fun e' => hne (e.trans e'.symm)) hl').symm
    · rw [if_neg e] at hl
      by_cases e' : j' = k
      · rw [if_pos e'] at hl'
        cases hl'
        exact key j v e hl
      · rw [if_neg e'] at hl'
        exact h.apart j v j' u hl hl' hne
end

/-- A scan's numbers are Go's. -/
def WfS (s : Scn) : Prop := (Lit.int .i64 s.gate).wf = true ∧ (Lit.int .i64 s.number).wf = true ∧ (Lit.int .i64 s.time).wf = true ∧ (Lit.int .i64 s.serial).wf = true ∧ (Lit.int .i64 s.kind).wf = true

/-- What the closure of by says of a scan. -/
def KeyAt (f : FuncId) (key : Scn → Int) (ok : Scn → Bool) : Prop :=
  (∀ (args : Array Value) (w : World), (callFunc f args).run Try.prog w = .ok (.enter f args) w) ∧
  ∀ (s : Scn) (w : World), Calls Try.prog f #[.agg #[.int .i64 s.gate, .int .i64 s.number, .int .i64 s.time, .int .i64 s.serial, .int .i64 s.kind, .string (bs s.owner)]] w fun e w' => e = .returned (.tuple #[.int .i64 (key s), .bool (ok s)]) ∧ Below w.heap.size w w'

def grpS (key : Scn → Int) (ok : Scn → Bool) (l : List Scn) (k : Int) : List Scn := l.filter fun s => ok s && decide (key s = k)

theorem grp_next {key : Scn → Int} {ok : Scn → Bool} {l : List Scn} {i : Nat} (h : i < l.length) (k : Int) : grpS key ok (l.take (i + 1)) k = if ok l[i] = true ∧ key l[i] = k then grpS key ok (l.take i) k ++ [l[i]] else grpS key ok (l.take i) k := by
  unfold grpS
  rw [List.take_succ_eq_append_getElem h, List.filter_append]
  by_cases h1 : ok l[i] = true
  · by_cases h2 : key l[i] = k
    · rw [if_pos ⟨h1, h2⟩]; simp [h1, h2]
    · rw [if_neg (fun h => h2 h.2)]; simp [h2]
  · rw [if_neg (fun h => h1 h.1)]; simp [h1]

theorem slice_zero (w : World) : (zeroValue 22).run Try.prog w = .ok (.slice none 0 0) w := by kernel_rfl

theorem scs_one {w : World} {b : Nat} {s : Scn} (h : w.heap[b]? = some (.cells #[.int .i64 s.gate, .int .i64 s.number, .int .i64 s.time, .int .i64 s.serial, .int .i64 s.kind, .string (bs s.owner)] 39 (0, 0))) : Scs w (.slice (some ⟨b, 0, none⟩) 1 1) [s] := by
  refine ⟨_, 1, rfl, ⟨rfl, fun i hi => ⟨b, 0, rfl, fun j hj => ?_⟩⟩, fun e => by cases e⟩
  have hi : i = 0 := by have : i < 1 := hi; omega
  subst hi
  rw [rc_eq _ _ (by simp), cell_of_row _ _ _ _ _ _ h]
  have : j = 0 ∨ j = 1 ∨ j = 2 ∨ j = 3 ∨ j = 4 ∨ j = 5 := by omega
  rcases this with rfl | rfl | rfl | rfl | rfl | rfl <;> rfl
end Go.Proofs.Ytpmoelkblngamaa
