/- lexer.tokens, plain: when a text's tokens are one name; The lexer's texts, plain: a piece of a text, a number's digits. -/
import Derived.Test.YtkdbenoleendcaaGreatDoorQHMB00
import Derived.Test.YtkdbenoleendcaaGreatDoorQHMB05
import Derived.Lib.Atoi

namespace Go.Proofs.YtkdbenoleendcaaGreatDoor

/-- A byte that continues a name. -/
def wrd (c : Nat) : Bool := ltr c || dgt c || decide (c = 95)

theorem cls_wrd (c : Nat) : (cls c = 3 ∨ cls c = 4 ∨ cls c = 5) ↔ wrd c = true := by
  rw [cls_ltr, cls_dgt, cls_und]
  unfold wrd
  simp [or_assoc]

def byte (t : List UInt8) (i : Nat) : Nat := (t.getD i 0).toNat

/-- A text is a name. -/
def nameS (t : List UInt8) : Bool := decide (0 < t.length ∧ t.length ≤ 24) && ltr (byte t 0) && (t.all fun c => wrd c.toNat)

theorem name_iff (t : List UInt8) : nameS t = true ↔ (0 < t.length ∧ t.length ≤ 24) ∧ ltr (byte t 0) = true ∧ ∀ i, i < t.length → wrd (byte t i) = true := by
  unfold nameS
  rw [Bool.and_eq_true, Bool.and_eq_true, decide_eq_true_eq, List.all_eq_true, and_assoc]
  have : (∀ x ∈ t, wrd x.toNat = true) ↔ ∀ i, i < t.length → wrd (byte t i) = true := by
    constructor
    · intro h i hi
      unfold byte
      rw [List.getD_eq_getElem?_getD, List.getElem?_eq_getElem hi]
      exact h _ (List.getElem_mem hi)
    · intro h x hx
      obtain ⟨i, hi, rfl⟩ := List.getElem_of_mem hx
      have := h i hi
      unfold byte at this
      rwa [List.getD_eq_getElem?_getD, List.getElem?_eq_getElem hi] at this
  rw [this]

/-- A token, or an error. -/
structure Fnd where
  kind : Int
  text : List UInt8
  num : Int
  pos : Int
  err : Int

/-- The token that is the whole text, a name. -/
def Fnd.whole (t : List UInt8) (x : Fnd) : Prop := x.kind = 1 ∧ x.text = t ∧ x.err = 0

/-- What has come so far. -/
def Some1 (t : List UInt8) (xs : List Fnd) : Prop :=
  (nameS t = true → xs = [] ∨ ∃ x, xs = [x] ∧ x.whole t) ∧ (nameS t = false → ∀ x r, xs = x :: r → ¬ x.whole t)

/-- What has come when the text is at its end, or at an error. -/
def All1 (t : List UInt8) (xs : List Fnd) : Prop := Some1 t xs ∧ (nameS t = true → xs ≠ [])

/-- At place i, so many tokens having come. -/
def LexInv (t : List UInt8) (i : Nat) (pre : List Fnd) : Prop :=
  i ≤ t.length ∧ pre.length ≤ i ∧ ((i = 0 ∧ pre = []) ∨ (nameS t = true ∧ i = t.length ∧ ∃ x, pre = [x] ∧ x.whole t) ∨ (nameS t = false ∧ 0 < i ∧ ∀ x r, pre = x :: r → ¬ x.whole t))

theorem lex_start (t : List UInt8) : LexInv t 0 [] := ⟨Nat.zero_le _, Nat.le_refl _, .inl ⟨rfl, rfl⟩⟩

theorem lex_end {t : List UInt8} {pre : List Fnd} (h : LexInv t t.length pre) : All1 t pre := by
  obtain ⟨_, _, h | h | h⟩ := h
  · have hn : nameS t = false := by
      cases hh : nameS t
      · rfl
      · have := (name_iff t).mp hh; omega
    exact ⟨⟨fun _ => .inl h.2, fun _ x r e => by rw [h.2] at e; simp at e⟩, fun e => by rw [hn] at e; simp at e⟩
  · obtain ⟨hn, _, x, rfl, hx⟩ := h
    exact ⟨⟨fun _ => .inr ⟨x, rfl, hx⟩, fun e => by rw [hn] at e; simp at e⟩, fun _ => by simp⟩
  · exact ⟨⟨fun e => by rw [h.1] at e; simp at e, fun _ => h.2.2⟩, fun e => by rw [h.1] at e; simp at e⟩

theorem not_name {t : List UInt8} (h : ltr (byte t 0) = false) : nameS t = false := by
  cases hh : nameS t
  · rfl
  · have := ((name_iff t).mp hh).2.1
    rw [h] at this; simp at this

theorem lex_skip {t : List UInt8} {i j : Nat} {pre : List Fnd} (h : LexInv t i pre) (hi : i < t.length) (hij : i < j) (hj : j ≤ t.length) (hc : ltr (byte t i) = false) : LexInv t j pre := by
  obtain ⟨h1, h2, h | h | h⟩ := h
  · obtain ⟨rfl, rfl⟩ := h
    exact ⟨hj, by simp, .inr (.inr ⟨not_name hc, by omega, fun x r e => by simp at e⟩)⟩
  · omega
  · exact ⟨hj, by omega, .inr (.inr ⟨h.1, by omega, h.2.2⟩)⟩

theorem head_append {pre : List Fnd} {x y : Fnd} {r : List Fnd} (h : pre ++ [x] = y :: r) : (pre = [] ∧ y = x) ∨ ∃ r', pre = y :: r' := by
  cases pre with
  | nil => left; simp at h; exact ⟨rfl, h.1.symm⟩
  | cons z l => right; simp at h; exact ⟨l, by rw [h.1]⟩

/-- A token that is no name. -/
theorem lex_other {t : List UInt8} {i : Nat} {pre : List Fnd} {x : Fnd} (h : LexInv t i pre) (hi : i < t.length) (hc : ltr (byte t i) = false) (hx : x.kind ≠ 1) :
    All1 t (pre ++ [x]) ∧ ∀ j, i < j → j ≤ t.length → LexInv t j (pre ++ [x]) := by
  have key : nameS t = false ∧ ∀ y r, pre ++ [x] = y :: r → ¬ y.whole t := by
    obtain ⟨h1, h2, h | h | h⟩ := h
    · obtain ⟨rfl, rfl⟩ := h
      exact ⟨not_name hc, fun y r e => by
        rcases head_append e with ⟨_, rfl⟩ | ⟨r', e'⟩
        · exact fun hw => hx hw.1
        · simp at e'⟩
    · omega
    · refine ⟨h.1, fun y r e => ?_⟩
      rcases head_append e with ⟨_, rfl⟩ | ⟨r', e'⟩
      · exact fun hw => hx hw.1
      · exact h.2.2 y r' e'
  refine ⟨⟨⟨fun e => by rw [key.1] at e; simp at e, fun _ => key.2⟩, fun e => by rw [key.1] at e; simp at e⟩, fun j hij hj => ⟨hj, ?_, .inr (.inr ⟨key.1, by omega, key.2⟩)⟩⟩
  have := h.2.1
  rw [List.length_append, List.length_singleton]
  omega

/-- A name, from i up to j. -/
theorem lex_word {t : List UInt8} {i j : Nat} {pre : List Fnd} {x : Fnd} (h : LexInv t i pre) (hi : i < t.length) (hij : i < j) (hj : j ≤ t.length) (hc : ltr (byte t i) = true) (hw : ∀ k, i ≤ k → k < j → wrd (byte t k) = true)
    (hend : j < t.length → wrd (byte t j) = false) (hk : x.kind = 1) (ht : x.text = (t.take j).drop i) (he : x.err = if 24 < j - i then 3 else 0) :
    All1 t (pre ++ [x]) ∧ LexInv t j (pre ++ [x]) := by
  have hlen : x.text.length = j - i := by rw [ht, List.length_drop, List.length_take]; omega
  have mk : nameS t = false → (∀ y r, pre ++ [x] = y :: r → ¬ y.whole t) → All1 t (pre ++ [x]) ∧ LexInv t j (pre ++ [x]) := fun h1 h2 => by
    refine ⟨⟨⟨fun e => by rw [h1] at e; simp at e, fun _ => h2⟩, fun e => by rw [h1] at e; simp at e⟩, hj, ?_, .inr (.inr ⟨h1, by omega, h2⟩)⟩
    have := h.2.1
    rw [List.length_append, List.length_singleton]
    omega
  obtain ⟨h1, h2, h' | h' | h'⟩ := h
  · obtain ⟨rfl, rfl⟩ := h'
    by_cases hjl : j = t.length
    · subst hjl
      have htt : x.text = t := by rw [ht, List.take_length, List.drop_zero]
      by_cases h24 : 24 < t.length - 0
      · rw [if_pos h24] at he
        refine mk ?_ (fun y r e => ?_)
        · cases hh : nameS t
          · rfl
          · have := ((name_iff t).mp hh).1; omega
        · rcases head_append e with ⟨_, rfl⟩ | ⟨r', e'⟩
          · exact fun hw' => by have := hw'.2.2; omega
          · simp at e'
      · rw [if_neg h24] at he
        have hn : nameS t = true := (name_iff t).mpr ⟨by omega, hc, fun k hk => hw k (Nat.zero_le _) hk⟩
        have hx : x.whole t := ⟨hk, htt, he⟩
        exact ⟨⟨⟨fun _ => .inr ⟨x, rfl, hx⟩, fun e => by rw [hn] at e; simp at e⟩, fun _ => by simp⟩, Nat.le_refl _, by simp; omega, .inr (.inl ⟨hn, rfl, x, rfl, hx⟩)⟩
    · refine mk ?_ (fun y r e => ?_)
      · cases hh : nameS t
        · rfl
        · have := ((name_iff t).mp hh).2.2 j (by omega)
          rw [hend (by omega)] at this; simp at this
      · rcases head_append e with ⟨_, rfl⟩ | ⟨r', e'⟩
        · exact fun hw' => by rw [hw'.2.1] at hlen; omega
        · simp at e'
  · omega
  · refine mk h'.1 (fun y r e => ?_)
    rcases head_append e with ⟨_, rfl⟩ | ⟨r', e'⟩
    · exact fun hw' => by rw [hw'.2.1] at hlen; omega
    · exact h'.2.2 y r' e'
end Go.Proofs.YtkdbenoleendcaaGreatDoor

namespace Go.Proofs.YtkdbenoleendcaaGreatDoor

/-- From i up to j. -/
def sub (t : List UInt8) (i j : Nat) : List UInt8 := (t.take j).drop i

theorem sub_len (t : List UInt8) (i j : Nat) (h : j ≤ t.length) : (sub t i j).length = j - i := by unfold sub; rw [List.length_drop, List.length_take]; omega

theorem bs_sub (t : List UInt8) (i j : Nat) : (bs t).extract i j = bs (sub t i j) := by
  apply ByteArray.ext
  rw [ByteArray.data_extract]
  apply Array.ext'
  simp [bs, sub, List.extract_eq_take_drop, List.drop_take]

theorem digits_some : ∀ (l : List UInt8) (acc : Nat), (∀ b ∈ l, dgt b.toNat = true) → ∃ m, Lib.decFrom acc l = some m
  | [], acc, _ => ⟨acc, rfl⟩
  | b :: r, acc, h => by
    have hb := h b (by simp)
    unfold dgt at hb
    rw [decide_eq_true_eq] at hb
    obtain ⟨m, hm⟩ := digits_some r (acc * 10 + (b.toNat - 48)) (fun x hx => h x (by simp [hx]))
    exact ⟨m, by simp only [Lib.decFrom, Lib.digitVal, if_pos hb]; exact hm⟩

theorem atoi_some (l : List UInt8) (hne : l ≠ []) (h : ∀ b ∈ l, dgt b.toNat = true) : ∃ m : Int, Lib.atoi l = some m := by
  cases l with
  | nil => exact absurd rfl hne
  | cons b r =>
    obtain ⟨m, hm⟩ := digits_some (b :: r) 0 h
    have hb := h b (by simp)
    unfold dgt at hb
    rw [decide_eq_true_eq] at hb
    have h1 : (b == 45) = false := by
      cases he : b == 45
      · rfl
      · have := eq_of_beq he; subst this; exact absurd hb (by decide)
    have h2 : (b == 43) = false := by
      cases he : b == 43
      · rfl
      · have := eq_of_beq he; subst this; exact absurd hb (by decide)
    exact ⟨m, by simp only [Lib.atoi, h1, h2, Lib.decNat, List.isEmpty_cons, hm]; rfl⟩

theorem sub_all {t : List UInt8} {i j : Nat} {p : Nat → Bool} (hj : j ≤ t.length) (h : ∀ k, i ≤ k → k < j → p (byte t k) = true) : ∀ b ∈ sub t i j, p b.toNat = true := by
  intro b hb
  obtain ⟨k, hk, rfl⟩ := List.getElem_of_mem hb
  have hk' := hk
  rw [sub_len _ _ _ hj] at hk'
  have := h (i + k) (by omega) (by omega)
  unfold byte at this
  rw [List.getD_eq_getElem?_getD, List.getElem?_eq_getElem (by omega)] at this
  simp only [sub, List.getElem_drop, List.getElem_take]
  exact this

theorem sub_atoi {t : List UInt8} {i j : Nat} (hij : i < j) (hj : j ≤ t.length) (h10 : j - i ≤ 10) (h : ∀ k, i ≤ k → k < j → dgt (byte t k) = true) : (bs (sub t i j)).size ≤ 18 ∧ ∃ m : Int, Lib.atoi (bs (sub t i j)).data.toList = some m := by
  have hl := sub_len t i j hj
  refine ⟨by rw [bs_size, hl]; omega, ?_⟩
  rw [bs_list]
  exact atoi_some _ (by intro e; rw [e] at hl; simp at hl; omega) (sub_all hj h)

theorem byte_get {t : List UInt8} {j : Nat} (h : j < t.length) (h' : j < (bs t).size) : ((bs t)[j]'h').toNat = byte t j := by
  unfold byte
  rw [List.getD_eq_getElem?_getD, List.getElem?_eq_getElem h]
  rfl

theorem at_byte {t : List UInt8} {i : Nat} (h : i < t.length) : atS (bs t) i = cls (byte t i) := by
  rw [atS_in (by rw [bs_size]; exact h)]
  congr 1
  unfold byte
  rw [List.getD_eq_getElem?_getD, List.getElem?_eq_getElem h]
  rfl

theorem at_end {t : List UInt8} {i : Nat} (h : ¬ i < t.length) : atS (bs t) i = 0 := atS_out (by rw [bs_size]; exact h)

theorem word_cases {t : List UInt8} {j : Nat} {d : Int} (h : atS (bs t) j = d) : (d = 3 ∨ d = 4 ∨ d = 5) ∨ (d ≠ 3 ∧ d ≠ 4 ∧ d ≠ 5 ∧ RowKit.Hid (j < t.length → wrd (byte t j) = false)) := by
  by_cases h3 : d = 3 ∨ d = 4 ∨ d = 5
  · exact .inl h3
  · refine .inr ⟨fun e => h3 (.inl e), fun e => h3 (.inr (.inl e)), fun e => h3 (.inr (.inr e)), fun hj => ?_⟩
    rw [at_byte hj] at h
    rw [← h, cls_wrd] at h3
    simpa using h3

theorem word_on {t : List UInt8} {j : Nat} {d : Int} (h : atS (bs t) j = d) (hd : d = 3 ∨ d = 4 ∨ d = 5) : j < t.length ∧ wrd (byte t j) = true := by
  by_cases hj : j < t.length
  · rw [at_byte hj] at h
    rw [← h, cls_wrd] at hd
    exact ⟨hj, hd⟩
  · rw [at_end hj] at h
    omega

theorem digit_on {t : List UInt8} {j : Nat} (h : atS (bs t) j = 4) : j < t.length ∧ dgt (byte t j) = true := by
  by_cases hj : j < t.length
  · rw [at_byte hj] at h
    exact ⟨hj, (cls_dgt _).mp h⟩
  · rw [at_end hj] at h
    omega

theorem word_more {t : List UInt8} {i j : Nat} {p : Nat → Bool} (h : ∀ k, i ≤ k → k < j → p (byte t k) = true) (hj : p (byte t j) = true) : ∀ k, i ≤ k → k < j + 1 → p (byte t k) = true := by
  intro k h1 h2
  by_cases e : k = j
  · rw [e]; exact hj
  · exact h k h1 (by omega)

theorem cls2 {c : Nat} (h : cls c = 2) : c = 35 := by
  unfold cls clsB at h
  repeat (split at h <;> try omega)
theorem cls4 {c : Nat} (h : cls c = 4) : dgt c = true := (cls_dgt c).mp h
end Go.Proofs.YtkdbenoleendcaaGreatDoor
