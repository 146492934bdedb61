/- hold, plain: the reference's tests and lists are the same. -/
import Derived.Test.YtkdbenoleendcaaGreatDoorQHMB14

namespace Go.Proofs.YtkdbenoleendcaaGreatDoor

def freeOne (sp : List SpT) (id : Int) (p : Int) : Bool := decide ((spAt sp p.toNat).1 = 0) || (decide ((spAt sp p.toNat).1 = 1) && decide ((spAt sp p.toNat).2 = id))

def rfreeB (sp : List SpT) (id : Int) (l : List Int) : Bool := l.all (freeOne sp id)

theorem bool_of {a b : Bool} (h : a = true ↔ b = true) : a = b := by
  cases a <;> cases b <;> simp_all

theorem rfree_0 {st : St} (hi : Inv st) {l : List Int} (hl : ∀ p ∈ l, 0 ≤ p ∧ p < st.sp.length) : rfreeB st.sp 0 l = !l.any (takenB st.sp) := by
  have key : ∀ p ∈ l, freeOne st.sp 0 p = !takenB st.sp p := fun p hp => by
    have hr := hl p hp
    have hpn : ((p.toNat : Nat) : Int) = p := by omega
    unfold freeOne takenB
    by_cases h0 : (spAt st.sp p.toNat).1 = 0
    · simp [h0]
    · by_cases h1 : (spAt st.sp p.toNat).1 = 1
      · obtain ⟨h, hh, hm⟩ := hi.back p.toNat (by omega) h1
        rw [hpn] at hm
        have h2 := hi.held h hh p hm
        have h3 := hi.rng h hh
        rw [h2]
        have : h.1 ≠ 0 := by omega
        simp [this]
      · simp [h0, h1]
  unfold rfreeB
  refine bool_of ?_
  rw [List.all_eq_true, Bool.not_eq_true', List.any_eq_false]
  constructor
  · intro h p hp
    have := h p hp
    rw [key p hp] at this
    simpa using this
  · intro h p hp
    rw [key p hp]
    have := h p hp
    simpa using this

theorem rfree_id {st : St} (hi : Inv st) {l : List Int} {x : HoldT} (hx : x ∈ st.op) (hl : ∀ p ∈ l, 0 ≤ p ∧ p < st.sp.length) : rfreeB st.sp x.1 l = !l.any (takenB (markS st.sp x.2.2.1 (0, 0))) := by
  have key : ∀ p ∈ l, freeOne st.sp x.1 p = !takenB (markS st.sp x.2.2.1 (0, 0)) p := fun p hp => by
    have hr := hl p hp
    have hpn : ((p.toNat : Nat) : Int) = p := by omega
    unfold freeOne takenB
    rw [mark_at _ _ _ _ (hi.rngP hx), hpn]
    by_cases hpx : p ∈ x.2.2.1
    · rw [if_pos hpx, hi.held x hx p hpx]
      simp
    · rw [if_neg hpx]
      by_cases h0 : (spAt st.sp p.toNat).1 = 0
      · simp [h0]
      · by_cases h1 : (spAt st.sp p.toNat).1 = 1
        · obtain ⟨h, hh, hm⟩ := hi.back p.toNat (by omega) h1
          rw [hpn] at hm
          have h2 := hi.held h hh p hm
          rw [h2]
          have : h.1 ≠ x.1 := fun e => hpx (by rw [← hi.uniq hh hx e]; exact hm)
          simp [this]
        · simp [h0, h1]
  unfold rfreeB
  refine bool_of ?_
  rw [List.all_eq_true, Bool.not_eq_true', List.any_eq_false]
  constructor
  · intro h p hp
    have := h p hp
    rw [key p hp] at this
    simpa using this
  · intro h p hp
    rw [key p hp]
    have := h p hp
    simpa using this

/-- The place of an open hold in the list. -/
theorem find_at {st : St} (hi : Inv st) {i : Nat} (h : i < st.op.length) {id : Int} (e : (st.op[i]).1 = id) : findH st.op id = some st.op[i] := by
  rw [← e]
  exact find_mem hi (List.getElem_mem h)

theorem setPl_set {st : St} (hi : Inv st) {i : Nat} (h : i < st.op.length) {l : List Int} : setPl st.op (st.op[i]).1 l = st.op.set i ((st.op[i]).1, (st.op[i]).2.1, l, (st.op[i]).2.2.2) := by
  refine List.ext_getElem (by rw [setPl_len, List.length_set]) fun j h1 h2 => ?_
  have hj : j < st.op.length := by rw [setPl_len] at h1; exact h1
  rw [setPl_at hj, List.getElem_set]
  by_cases e : i = j
  · subst e; rw [if_pos rfl, if_pos rfl]
  · rw [if_neg e, if_neg]
    intro h3
    rcases Nat.lt_or_gt_of_ne e with h4 | h4
    · have := List.pairwise_iff_getElem.mp hi.ids i j h hj h4; omega
    · have := List.pairwise_iff_getElem.mp hi.ids j i hj h h4; omega

theorem drop_mid {A B : List HoldT} {x : HoldT} (hne : ∀ y, y ∈ A ∨ y ∈ B → y.1 ≠ x.1) : dropH (A ++ x :: B) x.1 = A ++ B := by
  unfold dropH
  rw [List.filter_append, List.filter_cons]
  simp only [decide_true, Bool.not_true]
  rw [List.filter_eq_self.mpr, List.filter_eq_self.mpr]
  · simp
  · intro y hy
    have := hne y (Or.inr hy)
    simpa using this
  · intro y hy
    have := hne y (Or.inl hy)
    simpa using this

theorem drop_split {st : St} (hi : Inv st) {i : Nat} (h : i < st.op.length) : dropH st.op (st.op[i]).1 = st.op.take i ++ st.op.drop (i + 1) := by
  have hsplit : st.op = st.op.take i ++ st.op[i] :: st.op.drop (i + 1) := by
    conv => lhs; rw [← List.take_append_drop i st.op]
    rw [List.drop_eq_getElem_cons h]
  have hne : ∀ y, y ∈ st.op.take i ∨ y ∈ st.op.drop (i + 1) → y.1 ≠ (st.op[i]).1 := fun y hy => by
    rcases hy with hy | hy
    · obtain ⟨j, hj, rfl⟩ := List.getElem_of_mem hy
      rw [List.length_take] at hj
      rw [List.getElem_take]
      have := List.pairwise_iff_getElem.mp hi.ids j i (by omega) h (by omega)
      omega
    · obtain ⟨j, hj, rfl⟩ := List.getElem_of_mem hy
      rw [List.length_drop] at hj
      rw [List.getElem_drop]
      have := List.pairwise_iff_getElem.mp hi.ids i (i + 1 + j) h (by omega) (by omega)
      omega
  have := drop_mid (A := st.op.take i) (B := st.op.drop (i + 1)) (x := st.op[i]) hne
  rw [← hsplit] at this
  exact this

/-! ### Which hold a place is in -/
def heldW (op : List HoldT) (q : Int) : Int := ((op.find? fun h => decide (q ∈ h.2.2.1)).map (·.1)).getD 0

theorem heldW_none {op : List HoldT} {q : Int} (h : ∀ x ∈ op, q ∉ x.2.2.1) : heldW op q = 0 := by
  unfold heldW
  rw [List.find?_eq_none.mpr (fun x hx => by simpa using h x hx)]
  rfl

theorem heldW_snoc (op : List HoldT) (x : HoldT) (q : Int) (h : ∀ y ∈ op, q ∈ y.2.2.1 → q ∉ x.2.2.1) : heldW (op ++ [x]) q = if q ∈ x.2.2.1 then x.1 else heldW op q := by
  unfold heldW
  rw [List.find?_append]
  by_cases hq : q ∈ x.2.2.1
  · rw [if_pos hq, List.find?_eq_none.mpr (fun y hy => by simpa using fun hm => h y hy hm hq)]
    simp [hq]
  · rw [if_neg hq]
    simp [hq]

/-- The states are told by the open holds. -/
theorem held_is {st : St} (hi : Inv st) {q : Nat} (hq : q < st.sp.length) : ((spAt st.sp q).1 = 1 ↔ 0 < heldW st.op q) ∧ (0 < heldW st.op q → (spAt st.sp q).2 = heldW st.op q) := by
  have e : ((q : Int)).toNat = q := by omega
  cases hf : st.op.find? (fun h => decide ((q : Int) ∈ h.2.2.1)) with
  | none =>
    have h0 : heldW st.op q = 0 := by unfold heldW; rw [hf]; rfl
    rw [h0]
    refine ⟨⟨fun h1 => ?_, fun h => by omega⟩, fun h => by omega⟩
    obtain ⟨h, hh, hm⟩ := hi.back q hq h1
    have := List.find?_eq_none.mp hf h hh
    simp [hm] at this
  | some x =>
    have hx := List.mem_of_find?_eq_some hf
    have hm : (q : Int) ∈ x.2.2.1 := by simpa using List.find?_some hf
    have h0 : heldW st.op q = x.1 := by unfold heldW; rw [hf]; rfl
    have h1 := hi.held x hx q hm
    rw [e] at h1
    have := hi.rng x hx
    rw [h0, h1]
    exact ⟨⟨fun _ => by omega, fun _ => rfl⟩, fun _ => rfl⟩
end Go.Proofs.YtkdbenoleendcaaGreatDoor
