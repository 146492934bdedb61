/- money.Text and money.Parse, plain: a text is read back; What the lexer's texts lean on. -/
import Derived.Test.YtkdbenoleendcaaGreatDoorQHMB01
import Derived.Test.YtkdbenoleendcaaGreatDoorQHMB02
import Derived.Lib.ItoaNum
import Derived.Lib.AtoiAll
import Derived.Lib.Replace
import Derived.Lib.CountLaws
import Derived.Test.YtkdbenoleendcaaGreatDoorProg
import Derived.IntWalk
import Derived.Deep.DeepCutAuto

namespace Go.Proofs.YtkdbenoleendcaaGreatDoor
open Go.Lib

instance (n : Int) : Decidable (Amt n) := by unfold Amt; infer_instance

def IsDig (b : UInt8) : Prop := 48 ≤ b.toNat ∧ b.toNat ≤ 57

def valD (acc : Nat) (l : List UInt8) : Nat := l.foldl (fun a b => a * 10 + (b.toNat - 48)) acc

theorem valD_append (acc : Nat) (A B : List UInt8) : valD acc (A ++ B) = valD (valD acc A) B := by unfold valD; rw [List.foldl_append]

theorem valD_ge : ∀ (l : List UInt8) (acc : Nat), acc ≤ valD acc l := by
  intro l
  induction l with
  | nil => intro acc; exact Nat.le_refl _
  | cons b l ih => intro acc; have := ih (acc * 10 + (b.toNat - 48)); unfold valD at *; rw [List.foldl_cons]; omega

theorem parse_digits : ∀ (l : List UInt8) (acc : Nat), (∀ b ∈ l, IsDig b) → valD acc l < 1000000000000000000 → parseUint10 acc l = .ok (valD acc l) := by
  intro l
  induction l with
  | nil => intro acc _ _; rfl
  | cons b l ih =>
    intro acc hd hv
    have hb := hd b (by simp)
    have e : valD acc (b :: l) = valD (acc * 10 + (b.toNat - 48)) l := rfl
    have hge := valD_ge l (acc * 10 + (b.toNat - 48))
    rw [e] at hv ⊢
    unfold IsDig at hb
    rw [parseUint10, if_pos hb, if_neg (by omega), if_neg (by omega)]
    exact ih _ (fun x hx => hd x (by simp [hx])) hv

theorem dig_of {k : Nat} (h : k < 10) : (UInt8.ofNat (48 + k)).toNat = 48 + k := by
  rw [UInt8.toNat_ofNat']
  omega

theorem decDigits_spec : ∀ u : Nat, (∀ b ∈ decDigits u, IsDig b) ∧ valD 0 (decDigits u) = u ∧ decDigits u ≠ [] := by
  intro u
  induction u using Nat.strongRecOn with
  | _ u ih =>
    by_cases h : u < 10
    · rw [decDigits, dif_pos h]
      refine ⟨fun b hb => ?_, ?_, by simp⟩
      · rw [List.mem_singleton.mp hb]; unfold IsDig; rw [dig_of h]; omega
      · unfold valD; simp only [List.foldl_cons, List.foldl_nil]; rw [dig_of h]; omega
    · have i := ih (u / 10) (by omega)
      have hm : u % 10 < 10 := Nat.mod_lt _ (by decide)
      rw [decDigits, dif_neg h]
      refine ⟨fun b hb => ?_, ?_, by simp⟩
      · rcases List.mem_append.mp hb with hb | hb
        · exact i.1 b hb
        · rw [List.mem_singleton.mp hb]; unfold IsDig; rw [dig_of hm]; omega
      · rw [valD_append, i.2.1]
        unfold valD; simp only [List.foldl_cons, List.foldl_nil]; rw [dig_of hm]; omega

/-- Two digits. -/
def twoS (r : Nat) : List UInt8 := [UInt8.ofNat (48 + r / 10), UInt8.ofNat (48 + r % 10)]

theorem drop_hundred {r : Nat} (h : r < 100) : (decDigits (100 + r)).drop 1 = twoS r := by
  have e1 : decDigits (100 + r) = decDigits ((100 + r) / 10) ++ [UInt8.ofNat (48 + (100 + r) % 10)] := by rw [decDigits, dif_neg (by omega)]
  have e2 : decDigits ((100 + r) / 10) = decDigits ((100 + r) / 10 / 10) ++ [UInt8.ofNat (48 + (100 + r) / 10 % 10)] := by rw [decDigits, dif_neg (by omega)]
  have e3 : decDigits ((100 + r) / 10 / 10) = [UInt8.ofNat (48 + (100 + r) / 10 / 10)] := by rw [decDigits, dif_pos (by omega)]
  rw [e1, e2, e3]
  show [UInt8.ofNat (48 + (100 + r) / 10 % 10), UInt8.ofNat (48 + (100 + r) % 10)] = _
  unfold twoS
  rw [show (100 + r) / 10 % 10 = r / 10 from by omega, show (100 + r) % 10 = r % 10 from by omega]

theorem two_spec {r : Nat} (h : r < 100) : (∀ b ∈ twoS r, IsDig b) ∧ ∀ acc, valD acc (twoS r) = acc * 100 + r := by
  have h1 : r / 10 < 10 := by omega
  have h2 : r % 10 < 10 := by omega
  refine ⟨fun b hb => ?_, fun acc => ?_⟩
  · unfold twoS at hb
    simp only [List.mem_cons, List.not_mem_nil, or_false] at hb
    unfold IsDig
    rcases hb with rfl | rfl
    · rw [dig_of h1]; omega
    · rw [dig_of h2]; omega
  · unfold valD twoS
    simp only [List.foldl_cons, List.foldl_nil]
    rw [dig_of h1, dig_of h2]
    omega

/-- The text of an amount; nothing for another number. -/
def textS (n : Int) : List UInt8 := if Amt n then (if n < 0 then [45] else []) ++ (decDigits (n.natAbs / 100) ++ 46 :: twoS (n.natAbs % 100)) else []

/-- The amount with a text. -/
def parseS (t : List UInt8) : Option Int :=
  match atoiAll (replace t [46] [] 1) with
  | .ok v => if textS v = t then some v else none
  | _ => none

theorem occ_one (A B : List UInt8) (h : ∀ b ∈ A, b ≠ 46) : index (A ++ 46 :: B) [46] = A.length := by
  refine index_first (by simp) ?_ (fun j hj => ?_)
  · unfold occAt
    rw [List.drop_left]
    simp [List.isPrefixOf]
  · unfold occAt
    rw [List.drop_append_of_le_length (by omega), List.drop_eq_getElem_cons hj]
    have := h A[j] (List.getElem_mem hj)
    simp only [List.cons_append, List.isPrefixOf, beq_eq_false_iff_ne.mpr (Ne.symm this), Bool.false_and]

theorem replace_dot (A B : List UInt8) (h : ∀ b ∈ A, b ≠ 46) : replace (A ++ 46 :: B) [46] [] 1 = A ++ B := by
  have hi := occ_one A B h
  have hc := count_hit (s := A ++ 46 :: B) (sub := [46]) (by simp) hi
  unfold replace
  rw [if_neg (by simp)]
  have hn : replaceNum (A ++ 46 :: B) [46] 1 = 1 := by
    unfold replaceNum
    rw [if_neg (by omega)]; rfl
  rw [hn, replaceK_hit [46] [] 0 _ _ hi]
  simp [replaceK, List.drop_append]

theorem text_back {n : Int} (hn : Amt n) : parseS (textS n) = some n := by
  have hd := decDigits_spec (n.natAbs / 100)
  have h2 := two_spec (r := n.natAbs % 100) (by omega)
  have hv : valD 0 (decDigits (n.natAbs / 100) ++ twoS (n.natAbs % 100)) = n.natAbs := by rw [valD_append, hd.2.1, h2.2]; omega
  have hall : ∀ b ∈ decDigits (n.natAbs / 100) ++ twoS (n.natAbs % 100), IsDig b := fun b hb => by
    rcases List.mem_append.mp hb with hb | hb
    · exact hd.1 b hb
    · exact h2.1 b hb
  have hp := parse_digits _ 0 hall (by rw [hv]; unfold Amt at hn; omega)
  rw [hv] at hp
  have hne : decDigits (n.natAbs / 100) ++ twoS (n.natAbs % 100) ≠ [] := by simp [hd.2.2]
  have key : atoiAll (replace (textS n) [46] [] 1) = .ok n := by
    unfold textS
    rw [if_pos hn]
    have hdot : ∀ b ∈ (if n < 0 then [(45 : UInt8)] else []) ++ decDigits (n.natAbs / 100), b ≠ 46 := fun b hb e => by
      subst e
      rcases List.mem_append.mp hb with hb | hb
      · split at hb
        · simp at hb
        · simp at hb
      · have := hd.1 _ hb
        unfold IsDig at this
        have e : (46 : UInt8).toNat = 46 := rfl
        omega
    rw [← List.append_assoc, replace_dot _ _ hdot]
    by_cases hneg : n < 0
    · rw [if_pos hneg]
      show atoiAll (45 :: (decDigits (n.natAbs / 100) ++ twoS (n.natAbs % 100))) = _
      unfold atoiAll
      dsimp only
      rw [if_pos (show UInt8.toNat 45 = 43 ∨ UInt8.toNat 45 = 45 from Or.inr rfl)]
      unfold parseMag
      rw [if_neg hne, hp]
      dsimp only
      have e45 : (45 : UInt8).toNat = 45 := rfl
      unfold Amt at hn
      rw [if_neg (fun h => h.1 e45), if_neg (fun h => by have := h.2; omega), if_pos e45]
      congr 1; omega
    · rw [if_neg hneg, List.nil_append]
      generalize hg : decDigits (n.natAbs / 100) ++ twoS (n.natAbs % 100) = l at *
      cases l with
      | nil => exact absurd rfl hne
      | cons c r =>
        have hc := hall c (by simp)
        unfold IsDig at hc
        unfold atoiAll
        dsimp only
        rw [if_neg (by omega)]
        unfold parseMag
        rw [if_neg hne, hp]
        dsimp only
        unfold Amt at hn
        rw [if_neg (fun h => by have := h.2; omega), if_neg (fun h => by have := h.1; omega), if_neg (by omega)]
        congr 1; omega
  unfold parseS
  rw [key]
  dsimp only
  rw [if_pos rfl]

theorem text_some {n : Int} : textS n ≠ [] ↔ Amt n := by
  unfold textS
  constructor
  · intro h
    apply Classical.byContradiction
    intro hn
    rw [if_neg hn] at h
    exact h rfl
  · intro h
    rw [if_pos h]
    simp

theorem text_inj {n m : Int} (hn : Amt n) : textS n = textS m ↔ n = m := by
  constructor
  · intro h
    have hm : Amt m := text_some.mp (by rw [← h]; exact text_some.mpr hn)
    have a := text_back hn
    rw [h, text_back hm] at a
    exact (Option.some.inj a).symm
  · intro h; rw [h]

theorem parse_some {t : List UInt8} {b : Int} (h : parseS t = some b) : Amt b ∧ textS b = t := by
  unfold parseS at h
  cases ha : atoiAll (replace t [46] [] 1) with
  | ok v =>
    rw [ha] at h
    dsimp only at h
    split at h
    · rename_i ht
      obtain rfl := Option.some.inj h
      refine ⟨?_, ht⟩
      apply text_some.mp
      rw [ht]
      rintro rfl
      simp [replace, replaceNum, replaceK, count, countFrom, index, atoiAll] at ha
    · simp at h
  | _ => rw [ha] at h; simp at h

/-- A text is parsed exactly if it is an amount's. -/
theorem parse_iff (t : List UInt8) (b : Int) : parseS t = some b ↔ Amt b ∧ textS b = t :=
  ⟨parse_some, fun ⟨h1, h2⟩ => by rw [← h2]; exact text_back h1⟩
end Go.Proofs.YtkdbenoleendcaaGreatDoor

