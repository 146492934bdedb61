/- hold: the map of the open holds, as a list. -/
import Derived.Test.YtkdbenoleendcaaGreatDoorQHMB17

namespace Go.Proofs.YtkdbenoleendcaaGreatDoor
open Go.RowKit Go.IntWalk Go.Maps Go.WideMaps

/-- An open hold, and where its places lie: their address and the slice's capacity. -/
abbrev OwnT := HoldT × (Option Addr × Nat)

/-- The hold as the map has it. -/
def holdV (x : OwnT) : Value := .agg #[.int .i64 x.1.1, .string (bs x.1.2.1), .int .i64 0, .slice x.2.1 x.1.2.2.1.length x.2.2, .int .i64 x.1.2.2.2.1, .int .i64 x.1.2.2.2.2]

/-- A map's element reads as itself. -/
def RH (v : Value) : Option (DataW Value × List MemPlace) := some (.held v, [])
theorem RH_inv {v u : Value} {ps : List MemPlace} (h : RH v = some (.held u, ps)) : v = u := by
  unfold RH at h
  simp at h
  exact h.1

def entH (x : OwnT) : Lit × DataW Value := (.int .i64 x.1.1, .held (holdV x))
def mapH (E : List OwnT) : DataW Value := .map (E.map entH)
def Asc (E : List OwnT) : Prop := E.Pairwise fun a b => a.1.1 < b.1.1

theorem same_int (a b : Int) : (Lit.int .i64 a).sameKey (.int .i64 b) = decide (a = b) := by simp [Lit.sameKey]
theorem before_int (a b : Int) : (Lit.int .i64 a).before (.int .i64 b) = decide (a < b) := rfl

theorem mapH_size (E : List OwnT) : Maps.size (mapH E) = E.length := by
  unfold mapH
  rw [size_eq, List.length_map]

theorem filter_ent (id : Int) : ∀ E : List OwnT, (E.map entH).filter (fun p => !p.1.sameKey (.int .i64 id)) = (E.filter fun y => !decide (y.1.1 = id)).map entH
  | [] => rfl
  | x :: E => by
    rw [List.map_cons, List.filter_cons, List.filter_cons, filter_ent id E]
    show (if (!(Lit.int .i64 x.1.1).sameKey (.int .i64 id)) = true then _ else _) = _
    rw [same_int]
    by_cases h : x.1.1 = id <;> simp [h]

theorem mapH_del (E : List OwnT) (id : Int) : (mapH E).del (.int .i64 id) = mapH (E.filter fun y => !decide (y.1.1 = id)) := by
  show DataW.map _ = DataW.map _
  rw [filter_ent]

theorem insert_end (x : OwnT) : ∀ E : List OwnT, (∀ y ∈ E, y.1.1 < x.1.1) → DataW.insert (entH x) (E.map entH) = (E ++ [x]).map entH
  | [], _ => rfl
  | y :: E, h => by
    have h1 := h y (by simp)
    show (if (Lit.int .i64 x.1.1).before (.int .i64 y.1.1) = true then _ else _) = _
    rw [before_int, if_neg (by simp; omega), insert_end x E (fun z hz => h z (by simp [hz]))]
    rfl

theorem mapH_put (E : List OwnT) (x : OwnT) (h : ∀ y ∈ E, y.1.1 < x.1.1) : (mapH E).put (.int .i64 x.1.1) (.held (holdV x)) = mapH (E ++ [x]) := by
  show DataW.map (DataW.insert (entH x) _) = DataW.map _
  rw [filter_ent, List.filter_eq_self.mpr (fun y hy => by have := h y hy; simp; omega), insert_end x E h]

theorem insert_front (x : OwnT) : ∀ E : List OwnT, (∀ y ∈ E, x.1.1 < y.1.1) → DataW.insert (entH x) (E.map entH) = (x :: E).map entH
  | [], _ => rfl
  | y :: E, h => by
    have h1 := h y (by simp)
    show (if (Lit.int .i64 x.1.1).before (.int .i64 y.1.1) = true then _ else _) = _
    rw [before_int, if_pos (by simp; omega)]
    rfl

theorem set_again (x : OwnT) : ∀ E : List OwnT, Asc E → (∃ y ∈ E, y.1.1 = x.1.1) →
    DataW.insert (entH x) ((E.filter fun y => !decide (y.1.1 = x.1.1)).map entH) = (E.map fun y => if y.1.1 = x.1.1 then x else y).map entH
  | [], _, h => by obtain ⟨_, h, _⟩ := h; simp at h
  | y :: E, ha, h => by
    have ha1 := List.pairwise_cons.mp ha
    by_cases e : y.1.1 = x.1.1
    · have h1 : ∀ z ∈ E, x.1.1 < z.1.1 := fun z hz => by have := ha1.1 z hz; omega
      rw [List.filter_cons, if_neg (by simp [e]), List.filter_eq_self.mpr (fun z hz => by have := h1 z hz; simp; omega), insert_front x E h1]
      have : (E.map fun y => if y.1.1 = x.1.1 then x else y) = E := by
        refine Eq.trans (List.map_congr_left (g := fun z => z) fun z hz => ?_) (List.map_id' E)
        have := h1 z hz
        rw [if_neg (by omega)]
      rw [List.map_cons (f := fun y => if y.1.1 = x.1.1 then x else y), this]
      simp only [e, if_true]
    · have h2 : ∃ z ∈ E, z.1.1 = x.1.1 := by
        obtain ⟨z, hz, e2⟩ := h
        rcases List.mem_cons.mp hz with rfl | hz
        · exact absurd e2 e
        · exact ⟨z, hz, e2⟩
      have hlt : y.1.1 < x.1.1 := by
        obtain ⟨z, hz, e2⟩ := h2
        have := ha1.1 z hz
        omega
      rw [List.filter_cons, if_pos (by simp [e]), List.map_cons, List.map_cons, if_neg e]
      show (if (Lit.int .i64 x.1.1).before (.int .i64 y.1.1) = true then _ else _) = _
      rw [before_int, if_neg (by simp; omega), set_again x E ha1.2 h2]
      rfl

theorem mapH_set (E : List OwnT) (x : OwnT) (ha : Asc E) (h : ∃ y ∈ E, y.1.1 = x.1.1) : (mapH E).put (.int .i64 x.1.1) (.held (holdV x)) = mapH (E.map fun y => if y.1.1 = x.1.1 then x else y) := by
  show DataW.map (DataW.insert (entH x) _) = DataW.map _
  rw [filter_ent, set_again x E ha h]

def findO (E : List OwnT) (id : Int) : Option OwnT := E.find? fun x => decide (x.1.1 = id)

theorem find_ent (id : Int) : ∀ E : List OwnT, (E.map entH).find? (fun p => p.1.sameKey (.int .i64 id)) = (findO E id).map entH
  | [] => rfl
  | x :: E => by
    unfold findO
    rw [List.map_cons, List.find?_cons, List.find?_cons]
    show (match (Lit.int .i64 x.1.1).sameKey (.int .i64 id) with | true => _ | false => _) = _
    rw [same_int]
    by_cases h : x.1.1 = id
    · simp [h]
    · simp only [h, decide_false]
      exact find_ent id E

theorem mapH_at (E : List OwnT) (id : Int) (z : DataW Value) : (mapH E).atKey (.int .i64 id) z = match findO E id with | some x => .held (holdV x) | none => z := by
  unfold mapH DataW.atKey
  simp only [find_ent]
  cases findO E id <;> rfl

theorem mapH_has (E : List OwnT) (id : Int) : Maps.has (mapH E) (.int .i64 id) = (findO E id).isSome := by
  show Maps.has (.map _) _ = _
  rw [has_eq]
  unfold findO
  induction E with
  | nil => rfl
  | cons x E ih =>
    rw [List.map_cons, List.any_cons, List.find?_cons, ih]
    show ((Lit.int .i64 x.1.1).sameKey (.int .i64 id) || _) = _
    rw [same_int]
    by_cases h : x.1.1 = id <;> simp [h]

/-- The plain list that the map stands for finds what the map finds. -/
theorem find_own (E : List OwnT) (id : Int) : findH (E.map (·.1)) id = (findO E id).map (·.1) := by
  unfold findH findO
  rw [List.find?_map]
  rfl

theorem drop_own (E : List OwnT) (id : Int) : dropH (E.map (·.1)) id = (E.filter fun y => !decide (y.1.1 = id)).map (·.1) := by
  unfold dropH
  rw [List.filter_map]
  rfl

theorem set_own (E : List OwnT) (x : OwnT) (id : Int) (l : List Int) (hx : ∀ y ∈ E, y.1.1 = id → x.1 = (y.1.1, y.1.2.1, l, y.1.2.2.2)) (hid : x.1.1 = id) :
    setPl (E.map (·.1)) id l = (E.map fun y => if y.1.1 = x.1.1 then x else y).map (·.1) := by
  unfold setPl
  rw [List.map_map, List.map_map]
  refine List.map_congr_left fun y hy => ?_
  show (if y.1.1 = id then _ else _) = (if y.1.1 = x.1.1 then x else y).1
  rw [hid]
  by_cases h : y.1.1 = id
  · rw [if_pos h, if_pos h, hx y hy h]
  · rw [if_neg h, if_neg h]

/-- The bound on a map's entries may be what it reads as. -/
theorem tight_map {w : World} {P : Program} {k : TypeId} {M n : Nat} {E : List OwnT} (h : w.ownsMap P k RH M n (mapH E)) : w.ownsMap P k RH M E.length (mapH E) := by
  obtain ⟨es, clock, h1, h2, _, h4⟩ := h
  refine ⟨es, clock, h1, h2, ?_, h4⟩
  have := congrArg Maps.size h4
  rw [mapH_size, size_eq, length_sorted] at this
  simp at this
  omega
end Go.Proofs.YtkdbenoleendcaaGreatDoor
