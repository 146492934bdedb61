/- The lexer's texts, plain: a piece of a text, a number's digits. -/
import Derived.Test.YtkdbenoleendcaaDoorLD
import Derived.Lib.Atoi
import Derived.Test.YtkdbenoleendcaaDoorShelf
namespace Go.Proofs.YtkdbenoleendcaaDoor

/-- From i up to j. -/
def sub (t : List UInt8) (i j : Nat) : List UInt8 := (t.take j).drop i

theorem sub_len (t : List UInt8) (i j : Nat) (h : j ≤ t.length) : (sub t i j).length = j - i := by unfold sub; rw [List.length_drop, List.length_take]; omega

theorem bs_sub (t : List UInt8) (i j : Nat) : (bs t).extract i j = bs (sub t i j) := by
  apply ByteArray.ext
  rw [ByteArray.data_extract]
  apply Array.ext'
  simp [bs, sub, List.extract_eq_take_drop, List.drop_take]

theorem digits_some : ∀ (l : List UInt8) (acc : Nat), (∀ b ∈ l, dgt b.toNat = true) → ∃ m, Lib.decFrom acc l = some m
  | [], acc, _ => ⟨acc, rfl⟩
  | b :: r, acc, h => by
    have hb := h b (by simp)
    unfold dgt at hb
    rw [decide_eq_true_eq] at hb
    obtain ⟨m, hm⟩ := digits_some r (acc * 10 + (b.toNat - 48)) (fun x hx => h x (by simp [hx]))
    exact ⟨m, by simp only [Lib.decFrom, Lib.digitVal, if_pos hb]; exact hm⟩

theorem atoi_some (l : List UInt8) (hne : l ≠ []) (h : ∀ b ∈ l, dgt b.toNat = true) : ∃ m : Int, Lib.atoi l = some m := by
  cases l with
  | nil => exact absurd rfl hne
  | cons b r =>
    obtain ⟨m, hm⟩ := digits_some (b :: r) 0 h
    have hb := h b (by simp)
    unfold dgt at hb
    rw [decide_eq_true_eq] at hb
    have h1 : (b == 45) = false := by
      cases he : b == 45
      · rfl
      · have := eq_of_beq he; subst this; exact absurd hb (by decide)
    have h2 : (b == 43) = false := by
      cases he : b == 43
      · rfl
      · have := eq_of_beq he; subst this; exact absurd hb (by decide)
    exact ⟨m, by simp only [Lib.atoi, h1, h2, Lib.decNat, List.isEmpty_cons, hm]; rfl⟩

theorem sub_all {t : List UInt8} {i j : Nat} {p : Nat → Bool} (hj : j ≤ t.length) (h : ∀ k, i ≤ k → k < j → p (byte t k) = true) : ∀ b ∈ sub t i j, p b.toNat = true := by
  intro b hb
  obtain ⟨k, hk, rfl⟩ := List.getElem_of_mem hb
  have hk' := hk
  rw [sub_len _ _ _ hj] at hk'
  have := h (i + k) (by omega) (by omega)
  unfold byte at this
  rw [List.getD_eq_getElem?_getD, List.getElem?_eq_getElem (by omega)] at this
  simp only [sub, List.getElem_drop, List.getElem_take]
  exact this

theorem sub_atoi {t : List UInt8} {i j : Nat} (hij : i < j) (hj : j ≤ t.length) (h10 : j - i ≤ 10) (h : ∀ k, i ≤ k → k < j → dgt (byte t k) = true) : (bs (sub t i j)).size ≤ 18 ∧ ∃ m : Int, Lib.atoi (bs (sub t i j)).data.toList = some m := by
  have hl := sub_len t i j hj
  refine ⟨by rw [bs_size, hl]; omega, ?_⟩
  rw [bs_list]
  exact atoi_some _ (by intro e; rw [e] at hl; simp at hl; omega) (sub_all hj h)

theorem byte_get {t : List UInt8} {j : Nat} (h : j < t.length) (h' : j < (bs t).size) : ((bs t)[j]'h').toNat = byte t j := by
  unfold byte
  rw [List.getD_eq_getElem?_getD, List.getElem?_eq_getElem h]
  rfl

theorem at_byte {t : List UInt8} {i : Nat} (h : i < t.length) : atS (bs t) i = cls (byte t i) := by
  rw [atS_in (by rw [bs_size]; exact h)]
  congr 1
  unfold byte
  rw [List.getD_eq_getElem?_getD, List.getElem?_eq_getElem h]
  rfl

theorem at_end {t : List UInt8} {i : Nat} (h : ¬ i < t.length) : atS (bs t) i = 0 := atS_out (by rw [bs_size]; exact h)

theorem word_cases {t : List UInt8} {j : Nat} {d : Int} (h : atS (bs t) j = d) : (d = 3 ∨ d = 4 ∨ d = 5) ∨ (d ≠ 3 ∧ d ≠ 4 ∧ d ≠ 5 ∧ RowKit.Hid (j < t.length → wrd (byte t j) = false)) := by
  by_cases h3 : d = 3 ∨ d = 4 ∨ d = 5
  · exact .inl h3
  · refine .inr ⟨fun e => h3 (.inl e), fun e => h3 (.inr (.inl e)), fun e => h3 (.inr (.inr e)), fun hj => ?_⟩
    rw [at_byte hj] at h
    rw [← h, cls_wrd] at h3
    simpa using h3

theorem word_on {t : List UInt8} {j : Nat} {d : Int} (h : atS (bs t) j = d) (hd : d = 3 ∨ d = 4 ∨ d = 5) : j < t.length ∧ wrd (byte t j) = true := by
  by_cases hj : j < t.length
  · rw [at_byte hj] at h
    rw [← h, cls_wrd] at hd
    exact ⟨hj, hd⟩
  · rw [at_end hj] at h
    omega

theorem digit_on {t : List UInt8} {j : Nat} (h : atS (bs t) j = 4) : j < t.length ∧ dgt (byte t j) = true := by
  by_cases hj : j < t.length
  · rw [at_byte hj] at h
    exact ⟨hj, (cls_dgt _).mp h⟩
  · rw [at_end hj] at h
    omega

theorem word_more {t : List UInt8} {i j : Nat} {p : Nat → Bool} (h : ∀ k, i ≤ k → k < j → p (byte t k) = true) (hj : p (byte t j) = true) : ∀ k, i ≤ k → k < j + 1 → p (byte t k) = true := by
  intro k h1 h2
  by_cases e : k = j
  · rw [e]; exact hj
  · exact h k h1 (by omega)

theorem cls2 {c : Nat} (h : cls c = 2) : c = 35 := by
  unfold cls clsB at h
  repeat (split at h <;> try omega)
theorem cls4 {c : Nat} (h : cls c = 4) : dgt c = true := (cls_dgt c).mp h
end Go.Proofs.YtkdbenoleendcaaDoor
