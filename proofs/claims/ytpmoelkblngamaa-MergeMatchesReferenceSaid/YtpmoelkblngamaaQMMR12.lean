/- maps with integer keys: whatever values, as they stand. -/
import Derived.Test.YtpmoelkblngamaaQMMR11
import Derived.Maps.Own
import Derived.Maps.OwnSet
import Derived.Maps.Views

namespace Go.Proofs.Ytpmoelkblngamaa
open Go.RowKit Go.IntWalk Go.Maps Go.WideMaps

abbrev EntT := Int × Value

/-- A map's element reads as itself. -/
def RV (v : Value) : Option (DataW Value × List MemPlace) := some (.held v, [])
theorem RV_inv {v u : Value} {ps : List MemPlace} (h : RV v = some (.held u, ps)) : v = u := by
  unfold RV at h
  simp at h
  exact h.1

def entV (x : EntT) : Lit × DataW Value := (.int .i64 x.1, .held x.2)
def mapV (E : List EntT) : DataW Value := .map (E.map entV)
def AscV (E : List EntT) : Prop := E.Pairwise fun a b => a.1 < b.1

theorem sameV (a b : Int) : (Lit.int .i64 a).sameKey (.int .i64 b) = decide (a = b) := by simp [Lit.sameKey]
theorem beforeV (a b : Int) : (Lit.int .i64 a).before (.int .i64 b) = decide (a < b) := rfl

theorem mapV_size (E : List EntT) : Maps.size (mapV E) = E.length := by
  unfold mapV
  rw [size_eq, List.length_map]

def putV (E : List EntT) (k : Int) (v : Value) : List EntT :=
  match E with
  | [] => [(k, v)]
  | y :: E => if k < y.1 then (k, v) :: y :: E else if k = y.1 then (k, v) :: E else y :: putV E k v

def lookV (E : List EntT) (k : Int) : Option Value := (E.find? fun x => decide (x.1 = k)).map (·.2)

theorem filterV (k : Int) : ∀ E : List EntT, (E.map entV).filter (fun p => !p.1.sameKey (.int .i64 k)) = (E.filter fun y => !decide (y.1 = k)).map entV
  | [] => rfl
  | x :: E => by
    rw [List.map_cons, List.filter_cons, List.filter_cons, filterV k E]
    show (if (!(Lit.int .i64 x.1).sameKey (.int .i64 k)) = true then _ else _) = _
    rw [sameV]
    by_cases h : x.1 = k <;> simp [h]

theorem insertV (k : Int) (v : Value) : ∀ E : List EntT, AscV E → DataW.insert (entV (k, v)) ((E.filter fun y => !decide (y.1 = k)).map entV) = (putV E k v).map entV
  | [], _ => rfl
  | y :: E, ha => by
    have ha' := List.pairwise_cons.mp ha
    unfold putV
    by_cases h1 : k < y.1
    · have hf : ∀ z ∈ y :: E, (!decide (z.1 = k)) = true := fun z hz => by
        rcases List.mem_cons.mp hz with rfl | hz
        · simp; omega
        · have := ha'.1 z hz
          simp; omega
      rw [if_pos h1, List.filter_eq_self.mpr hf]
      show (if (Lit.int .i64 k).before (.int .i64 y.1) = true then _ else _) = _
      rw [beforeV, if_pos (by simp; omega)]
      rfl
    · rw [if_neg h1]
      by_cases h2 : k = y.1
      · have hf : ∀ z ∈ E, (!decide (z.1 = k)) = true := fun z hz => by
          have := ha'.1 z hz
          simp; omega
        rw [if_pos h2, List.filter_cons, if_neg (by simp; omega), List.filter_eq_self.mpr hf]
        cases E with
        | nil => rfl
        | cons z E =>
          have := ha'.1 z (List.mem_cons_self ..)
          show (if (Lit.int .i64 k).before (.int .i64 z.1) = true then _ else _) = _
          rw [beforeV, if_pos (by simp; omega)]
          rfl
      · rw [if_neg h2, List.filter_cons, if_pos (by simp; omega), List.map_cons, List.map_cons]
        show (if (Lit.int .i64 k).before (.int .i64 y.1) = true then _ else _) = _
        rw [beforeV, if_neg (by simp; omega), insertV k v E ha'.2]

theorem mapV_put {E : List EntT} (h : AscV E) (k : Int) (v : Value) : (mapV E).put (.int .i64 k) (.held v) = mapV (putV E k v) := by
  show DataW.map (DataW.insert (entV (k, v)) _) = DataW.map _
  rw [filterV, insertV k v E h]

theorem putV_mem {E : List EntT} (h : AscV E) (k : Int) (v : Value) (x : EntT) : x ∈ putV E k v ↔ x = (k, v) ∨ (x ∈ E ∧ x.1 ≠ k) := by
  induction E with
  | nil => simp [putV]
  | cons y E ih =>
    have h' := List.pairwise_cons.mp h
    unfold putV
    by_cases h1 : k < y.1
    · rw [if_pos h1, List.mem_cons]
      constructor
      · rintro (e | e)
        · exact Or.inl e
        · refine Or.inr ⟨e, ?_⟩
          rcases List.mem_cons.mp e with rfl | e
          · omega
          · have := h'.1 x e; omega
      · rintro (e | e)
        · exact Or.inl e
        · exact Or.inr e.1
    · rw [if_neg h1]
      by_cases h2 : k = y.1
      · rw [if_pos h2, List.mem_cons]
        constructor
        · rintro (e | e)
          · exact Or.inl e
          · exact Or.inr ⟨List.mem_cons_of_mem _ e, by have := h'.1 x e; omega⟩
        · rintro (e | ⟨e, hne⟩)
          · exact Or.inl e
          · rcases List.mem_cons.mp e with rfl | e
            · exact absurd h2.symm hne
            · exact Or.inr e
      · rw [if_neg h2, List.mem_cons, ih h'.2]
        constructor
        · rintro (e | e | e)
          · exact Or.inr ⟨by rw [e]; exact List.mem_cons_self .., by rw [e]; omega⟩
          · exact Or.inl e
          · exact Or.inr ⟨List.mem_cons_of_mem _ e.1, e.2⟩
        · rintro (e | ⟨e, hne⟩)
          · exact Or.inr (Or.inl e)
          · rcases List.mem_cons.mp e with rfl | e
            · exact Or.inl rfl
            · exact Or.inr (Or.inr ⟨e, hne⟩)

theorem putV_asc {E : List EntT} (h : AscV E) (k : Int) (v : Value) : AscV (putV E k v) := by
  induction E with
  | nil => exact List.pairwise_singleton _ _
  | cons y E ih =>
    have h' := List.pairwise_cons.mp h
    unfold putV
    by_cases h1 : k < y.1
    · rw [if_pos h1]
      refine List.pairwise_cons.mpr ⟨fun z hz => ?_, h⟩
      rcases List.mem_cons.mp hz with rfl | hz
      · exact h1
      · have := h'.1 z hz
        show k < z.1
        omega
    · rw [if_neg h1]
      by_cases h2 : k = y.1
      · rw [if_pos h2]
        exact List.pairwise_cons.mpr ⟨fun z hz => by have := h'.1 z hz; show k < z.1; omega, h'.2⟩
      · rw [if_neg h2]
        refine List.pairwise_cons.mpr ⟨fun z hz => ?_, ih h'.2⟩
        rcases (putV_mem h'.2 k v z).mp hz with rfl | hz
        · show y.1 < k; omega
        · exact h'.1 z hz.1

theorem look_mem {E : List EntT} (h : AscV E) {k : Int} {v : Value} : lookV E k = some v ↔ (k, v) ∈ E := by
  induction E with
  | nil => simp [lookV]
  | cons y E ih =>
    have h' := List.pairwise_cons.mp h
    have ih := ih h'.2
    unfold lookV at *
    rw [List.find?_cons, List.mem_cons]
    by_cases e : y.1 = k
    · simp only [e, decide_true, Option.map_some, Option.some.injEq]
      constructor
      · intro hv; left; rw [← hv, ← e]
      · rintro (hv | hv)
        · rw [← hv]
        · have := h'.1 _ hv; simp at this; omega
    · simp only [e, decide_false]
      rw [ih]
      constructor
      · exact Or.inr
      · rintro (hv | hv)
        · rw [← hv] at e; exact absurd rfl e
        · exact hv

theorem look_none {E : List EntT} {k : Int} : lookV E k = none ↔ ∀ x ∈ E, x.1 ≠ k := by
  unfold lookV
  rw [Option.map_eq_none_iff, List.find?_eq_none]
  exact ⟨fun h x hx e => h x hx (by simp [e]), fun h x hx e => h x hx (by simpa using e)⟩

theorem look_put {E : List EntT} (h : AscV E) (k : Int) (v : Value) (j : Int) : lookV (putV E k v) j = if j = k then some v else lookV E j := by
  by_cases e : j = k
  · rw [if_pos e, look_mem (putV_asc h k v), putV_mem h, e]
    exact Or.inl rfl
  · rw [if_neg e]
    cases hl : lookV E j with
    | none =>
      rw [look_none] at hl ⊢
      intro x hx
      rcases (putV_mem h k v x).mp hx with rfl | hx
      · exact fun h => e h.symm
      · exact hl x hx.1
    | some u =>
      rw [look_mem h] at hl
      rw [look_mem (putV_asc h k v), putV_mem h]
      exact Or.inr ⟨hl, e⟩

theorem findV (k : Int) : ∀ E : List EntT, (E.map entV).find? (fun p => p.1.sameKey (.int .i64 k)) = (E.find? fun x => decide (x.1 = k)).map entV
  | [] => rfl
  | x :: E => by
    rw [List.map_cons, List.find?_cons, List.find?_cons]
    show (match (Lit.int .i64 x.1).sameKey (.int .i64 k) with | true => _ | false => _) = _
    rw [sameV]
    by_cases h : x.1 = k
    · simp [h]
    · simp only [h, decide_false]
      exact findV k E

theorem mapV_at (E : List EntT) (k : Int) (z : DataW Value) : (mapV E).atKey (.int .i64 k) z = match lookV E k with | some v => .held v | none => z := by
  unfold mapV DataW.atKey lookV
  simp only [findV]
  cases E.find? fun x => decide (x.1 = k) <;> rfl

theorem mapV_has (E : List EntT) (k : Int) : Maps.has (mapV E) (.int .i64 k) = (lookV E k).isSome := by
  show Maps.has (.map _) _ = _
  rw [has_eq]
  unfold lookV
  induction E with
  | nil => rfl
  | cons x E ih =>
    rw [List.map_cons, List.any_cons, List.find?_cons, ih]
    show ((Lit.int .i64 x.1).sameKey (.int .i64 k) || _) = _
    rw [sameV]
    by_cases h : x.1 = k <;> simp [h]

/-- The bound on a map's entries may be what it reads as. -/
theorem tightV {w : World} {P : Program} {k : TypeId} {M n : Nat} {E : List EntT} (h : w.ownsMap P k RV M n (mapV E)) : w.ownsMap P k RV M E.length (mapV E) := by
  obtain ⟨es, clock, h1, h2, _, h4⟩ := h
  refine ⟨es, clock, h1, h2, ?_, h4⟩
  have := congrArg Maps.size h4
  rw [mapV_size, size_eq, length_sorted] at this
  simp at this
  omega
end Go.Proofs.Ytpmoelkblngamaa
