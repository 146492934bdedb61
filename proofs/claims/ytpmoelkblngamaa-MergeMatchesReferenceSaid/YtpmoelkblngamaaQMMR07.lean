/- merge: comparisons: plain. -/
import Derived.Test.YtpmoelkblngamaaQMMR06
import GoSem.Op.String

namespace Go.Proofs.Ytpmoelkblngamaa

abbrev Name := List UInt8

theorem nl_irrefl : ∀ x : Name, Op.bytesLess x x = false
  | [] => rfl
  | a :: x => by
    have := nl_irrefl x
    simp [Op.bytesLess, this]

theorem nl_trans : ∀ {x y z : Name}, Op.bytesLess x y = true → Op.bytesLess y z = true → Op.bytesLess x z = true
  | _, [], _, h, _ => by cases ‹Name› <;> simp [Op.bytesLess] at h
  | _, _ :: _, [], _, h => by simp [Op.bytesLess] at h
  | [], _ :: _, _ :: _, _, _ => rfl
  | a :: x, b :: y, c :: z, h1, h2 => by
    simp only [Op.bytesLess, Bool.or_eq_true, decide_eq_true_eq, Bool.and_eq_true, beq_iff_eq] at h1 h2 ⊢
    rcases h1 with h1 | ⟨rfl, h1⟩
    · rcases h2 with h2 | ⟨rfl, _⟩
      · exact Or.inl (UInt8.lt_trans h1 h2)
      · exact Or.inl h1
    · rcases h2 with h2 | ⟨rfl, h2⟩
      · exact Or.inl h2
      · exact Or.inr ⟨rfl, nl_trans h1 h2⟩

theorem nl_total : ∀ {x y : Name}, x ≠ y → Op.bytesLess x y = true ∨ Op.bytesLess y x = true
  | [], [], h => absurd rfl h
  | [], _ :: _, _ => Or.inl rfl
  | _ :: _, [], _ => Or.inr rfl
  | a :: x, b :: y, h => by
    simp only [Op.bytesLess, Bool.or_eq_true, decide_eq_true_eq, Bool.and_eq_true, beq_iff_eq]
    by_cases e : a = b
    · subst e
      rcases nl_total (x := x) (y := y) (fun e => h (by rw [e])) with h | h
      · exact Or.inl (Or.inr ⟨rfl, h⟩)
      · exact Or.inr (Or.inr ⟨rfl, h⟩)
    · rcases UInt8.lt_or_lt_of_ne e with h | h
      · exact Or.inl (Or.inl h)
      · exact Or.inr (Or.inl h)

theorem nl_asym {a b : Name} (h : Op.bytesLess a b = true) : Op.bytesLess b a = false := by
  cases hh : Op.bytesLess b a
  · rfl
  · have := nl_trans h hh
    rw [nl_irrefl] at this
    exact this.symm

/-- cmp.Compare of integers, of names. -/
def cmpI (a b : Int) : Int := if a < b then -1 else if b < a then 1 else 0
def cmpN (s t : Name) : Int := if Op.bytesLess s t = true then -1 else if Op.bytesLess t s = true then 1 else 0

/-- cmp.Or. -/
def orL : List Int → Int
  | [] => 0
  | a :: l => if a = 0 then orL l else a

theorem cmpI_lt {a b : Int} : cmpI a b < 0 ↔ a < b := by
  unfold cmpI
  by_cases h1 : a < b
  · simp [h1]
  · rw [if_neg h1]; by_cases h2 : b < a <;> simp [h1, h2]

theorem cmpI_eq {a b : Int} : cmpI a b = 0 ↔ a = b := by
  unfold cmpI
  by_cases h1 : a < b
  · simp [h1]; omega
  · rw [if_neg h1]; by_cases h2 : b < a
    · simp [h2]; omega
    · simp [h2]; omega

theorem cmpN_lt {a b : Name} : cmpN a b < 0 ↔ Op.bytesLess a b = true := by
  unfold cmpN
  by_cases h1 : Op.bytesLess a b = true
  · simp [h1]
  · rw [if_neg h1]; by_cases h2 : Op.bytesLess b a = true <;> simp [h1, h2]

def intsN (t : Name) : List Int := t.map fun c => (c.toNat : Int)

theorem less_ints : ∀ {a b : Name}, Op.bytesLess a b = true ↔ intsN a < intsN b
  | a, [] => by
    constructor
    · intro h; simp [Op.bytesLess] at h
    · intro h; exact absurd h (List.not_lt_nil _)
  | [], b :: y => ⟨fun _ => List.Lex.nil, fun _ => rfl⟩
  | a :: x, b :: y => by
    have ih := less_ints (a := x) (b := y)
    have e1 : intsN (a :: x) = (a.toNat : Int) :: intsN x := rfl
    have e2 : intsN (b :: y) = (b.toNat : Int) :: intsN y := rfl
    rw [e1, e2, List.cons_lt_cons_iff, ← ih]
    simp only [Op.bytesLess, Bool.or_eq_true, decide_eq_true_eq, Bool.and_eq_true, beq_iff_eq]
    have h1 : a < b ↔ (a.toNat : Int) < b.toNat := by rw [UInt8.lt_iff_toNat_lt]; omega
    have h2 : a = b ↔ (a.toNat : Int) = b.toNat := by rw [← UInt8.toNat_inj]; omega
    rw [h1, h2]

theorem or_key {a b : Int} {l m : List Int} {r : List Int} (h : orL r < 0 ↔ l < m) : orL (cmpI a b :: r) < 0 ↔ a :: l < b :: m := by
  unfold orL
  rw [List.cons_lt_cons_iff]
  by_cases e : cmpI a b = 0
  · rw [if_pos e, h]
    have e := cmpI_eq.mp e
    constructor
    · exact fun h => Or.inr ⟨e, h⟩
    · rintro (h | h)
      · omega
      · exact h.2
  · rw [if_neg e, cmpI_lt]
    constructor
    · exact Or.inl
    · rintro (h | h)
      · exact h
      · exact absurd (cmpI_eq.mpr h.1) e

theorem or_name {s t : Name} : orL [cmpN s t] < 0 ↔ intsN s < intsN t := by
  unfold orL
  by_cases e : cmpN s t = 0
  · rw [if_pos e, ← less_ints, ← cmpN_lt, e]
    exact Iff.rfl
  · rw [if_neg e, cmpN_lt, less_ints]

theorem or_end : orL [] < 0 ↔ ([] : List Int) < [] := ⟨fun h => absurd h (by decide), fun h => absurd h (List.not_lt_nil _)⟩

def cfS (a b : Scn) : Int := orL [cmpI a.time b.time, cmpI a.gate b.gate, cmpI a.number b.number, cmpI a.serial b.serial, cmpI a.kind b.kind, cmpN a.owner b.owner]
def cfB (a b : Blm) : Int := orL [cmpI a.kind b.kind, cmpI a.gate b.gate, cmpI a.number b.number, cmpI a.serial b.serial, cmpI a.other b.other, cmpI a.count b.count]

theorem cfS_lt (a b : Scn) : cfS a b < 0 ↔ KLt KS a b := or_key (or_key (or_key (or_key (or_key or_name))))
theorem cfB_lt (a b : Blm) : cfB a b < 0 ↔ KLt KB a b := or_key (or_key (or_key (or_key (or_key (or_key or_end)))))
end Go.Proofs.Ytpmoelkblngamaa
