/- merge: strict lists: an order by keys; a list that is strictly sorted and has certain elements. -/
import Derived.Lib.Hide

namespace Go.Proofs.Ytpmoelkblngamaa

/-- The keys of an element, the first one counts most. -/
structure KeyOf (α : Type) where
  key : α → List Int
  inj : ∀ a b, key a = key b → a = b

section
variable {α : Type} (K : KeyOf α)

def KLt (a b : α) : Prop := K.key a < K.key b

instance (a b : α) : Decidable (KLt K a b) := inferInstanceAs (Decidable (K.key a < K.key b))

theorem kirr (a : α) : ¬ KLt K a a := List.lt_irrefl _
theorem ktrans {a b c : α} (h : KLt K a b) (k : KLt K b c) : KLt K a c := List.lt_trans h k
theorem kasymm {a b : α} (h : KLt K a b) : ¬ KLt K b a := fun k => kirr K a (ktrans K h k)
theorem ktri (a b : α) : KLt K a b ∨ a = b ∨ KLt K b a := by
  by_cases h1 : K.key a < K.key b
  · exact Or.inl h1
  · by_cases h2 : K.key b < K.key a
    · exact Or.inr (Or.inr h2)
    · exact Or.inr (Or.inl (K.inj _ _ (List.le_antisymm (List.not_lt.mp h2) (List.not_lt.mp h1))))

/-- Strictly sorted. -/
def Strict (l : List α) : Prop := l.Pairwise (KLt K)

theorem strict_nodup {l : List α} (h : Strict K l) : l.Nodup := h.imp fun h e => by subst e; exact kirr K _ h

theorem strict_ext : ∀ {l m : List α}, Strict K l → Strict K m → (∀ x, x ∈ l ↔ x ∈ m) → l = m := by
  intro l
  induction l with
  | nil =>
    intro m _ _ h
    cases m with
    | nil => rfl
    | cons y m => exact absurd ((h y).mpr (List.mem_cons_self ..)) (by simp)
  | cons x l ih =>
    intro m hl hm h
    cases m with
    | nil => exact absurd ((h x).mp (List.mem_cons_self ..)) (by simp)
    | cons y m =>
      have hl' := List.pairwise_cons.mp hl
      have hm' := List.pairwise_cons.mp hm
      have hxy : x = y := by
        rcases List.mem_cons.mp ((h x).mp (List.mem_cons_self ..)) with e | e
        · exact e
        · rcases List.mem_cons.mp ((h y).mpr (List.mem_cons_self ..)) with e2 | e2
          · exact e2.symm
          · exact absurd (hm'.1 _ e) (kasymm K (hl'.1 _ e2))
      subst hxy
      refine congrArg _ (ih hl'.2 hm'.2 fun z => ?_)
      constructor
      · intro hz
        rcases List.mem_cons.mp ((h z).mp (List.mem_cons_of_mem _ hz)) with e | e
        · subst e; exact absurd (hl'.1 _ hz) (kirr K _)
        · exact e
      · intro hz
        rcases List.mem_cons.mp ((h z).mpr (List.mem_cons_of_mem _ hz)) with e | e
        · subst e; exact absurd (hm'.1 _ hz) (kirr K _)
        · exact e

/-- The strict list of some elements. -/
def IsSet (x : List α) (P : α → Prop) : Prop := Strict K x ∧ ∀ a, a ∈ x ↔ P a

theorem IsSet.unique {x y : List α} {P : α → Prop} (h : IsSet K x P) (k : IsSet K y P) : x = y := strict_ext K h.1 k.1 fun a => (h.2 a).trans (k.2 a).symm
theorem IsSet.congr {x : List α} {P Q : α → Prop} (h : IsSet K x P) (e : ∀ a, P a ↔ Q a) : IsSet K x Q := ⟨h.1, fun a => (h.2 a).trans (e a)⟩

variable [DecidableEq α]
/-- A new element goes to its place. -/
def insK (x : α) : List α → List α
  | [] => [x]
  | a :: l => if KLt K x a then x :: a :: l else if x = a then a :: l else a :: insK x l

theorem insK_mem (x : α) (l : List α) (a : α) : a ∈ insK K x l ↔ a = x ∨ a ∈ l := by
  induction l with
  | nil => simp [insK]
  | cons b l ih =>
    unfold insK
    split
    · simp
    · split
      · rename_i h; subst h; simp
      · rw [List.mem_cons, ih, List.mem_cons]
        constructor
        · rintro (h | h | h)
          · exact Or.inr (Or.inl h)
          · exact Or.inl h
          · exact Or.inr (Or.inr h)
        · rintro (h | h | h)
          · exact Or.inr (Or.inl h)
          · exact Or.inl h
          · exact Or.inr (Or.inr h)

theorem insK_strict (x : α) {l : List α} (h : Strict K l) : Strict K (insK K x l) := by
  induction l with
  | nil => exact List.pairwise_singleton _ _
  | cons b l ih =>
    have h' := List.pairwise_cons.mp h
    unfold insK
    split
    · rename_i hx
      refine List.pairwise_cons.mpr ⟨fun c hc => ?_, h⟩
      rcases List.mem_cons.mp hc with e | e
      · subst e; exact hx
      · exact ktrans K hx (h'.1 _ e)
    · split
      · exact h
      · rename_i h1 h2
        refine List.pairwise_cons.mpr ⟨fun c hc => ?_, ih h'.2⟩
        rcases (insK_mem K x l c).mp hc with e | e
        · subst e
          rcases ktri K b c with h | h | h
          · exact h
          · exact absurd h.symm h2
          · exact absurd h h1
        · exact h'.1 _ e

/-- The strict list of a list's elements. -/
def setK (l : List α) : List α := l.foldl (fun out x => insK K x out) []

theorem setK_fold : ∀ (l out : List α), Strict K out → IsSet K (l.foldl (fun out x => insK K x out) out) (fun a => a ∈ out ∨ a ∈ l) := by
  intro l
  induction l with
  | nil => intro out h; exact ⟨h, fun a => by simp⟩
  | cons x l ih =>
    intro out h
    refine (ih (insK K x out) (insK_strict K x h)).congr K fun a => ?_
    rw [insK_mem, List.mem_cons]
    constructor
    · rintro ((h | h) | h)
      · exact Or.inr (Or.inl h)
      · exact Or.inl h
      · exact Or.inr (Or.inr h)
    · rintro (h | h | h)
      · exact Or.inl (Or.inr h)
      · exact Or.inl (Or.inl h)
      · exact Or.inr h

theorem setK_is (l : List α) : IsSet K (setK K l) (fun a => a ∈ l) := (setK_fold K l [] List.Pairwise.nil).congr K fun a => by simp
theorem setK_strict (l : List α) : Strict K (setK K l) := (setK_is K l).1
theorem setK_mem (l : List α) (a : α) : a ∈ setK K l ↔ a ∈ l := (setK_is K l).2 a
theorem setK_congr {l m : List α} (h : ∀ a, a ∈ l ↔ a ∈ m) : setK K l = setK K m := (setK_is K l).unique K ((setK_is K m).congr K fun a => (h a).symm)
theorem setK_eq {x l : List α} (h : Strict K x) (e : ∀ a, a ∈ x ↔ a ∈ l) : x = setK K l := IsSet.unique K ⟨h, fun a => e a⟩ (setK_is K l)

/-! ### Sorted, then each once -/
/-- Equal neighbours once. -/
def compS : List α → List α
  | [] => []
  | a :: l => match compS l with
    | [] => [a]
    | b :: m => if a = b then b :: m else a :: b :: m

theorem compS_cons (a : α) (l : List α) : ∃ m, compS (a :: l) = a :: m := by
  induction l generalizing a with
  | nil => exact ⟨[], rfl⟩
  | cons b l ih =>
    obtain ⟨m, hm⟩ := ih b
    unfold compS
    rw [hm]
    dsimp only
    split
    · rename_i h; subst h; exact ⟨m, rfl⟩
    · exact ⟨_, rfl⟩

theorem compS_two (a b : α) (l : List α) : compS (a :: b :: l) = if a = b then compS (b :: l) else a :: compS (b :: l) := by
  obtain ⟨m, hm⟩ := compS_cons b l
  rw [compS, hm]

theorem compS_mem (l : List α) (a : α) : a ∈ compS l ↔ a ∈ l := by
  induction l with
  | nil => exact Iff.rfl
  | cons b l ih =>
    cases l with
    | nil => exact Iff.rfl
    | cons c l =>
      rw [compS_two]
      split
      · rename_i h; subst h
        rw [ih]; simp
      · rw [List.mem_cons, ih, List.mem_cons (l := c :: l)]

theorem compS_strict {l : List α} (h : l.Pairwise fun a b => ¬ KLt K b a) : Strict K (compS l) := by
  induction l with
  | nil => exact List.Pairwise.nil
  | cons a l ih =>
    have h' := List.pairwise_cons.mp h
    cases l with
    | nil => exact List.pairwise_singleton _ _
    | cons b l =>
      rw [compS_two]
      split
      · exact ih h'.2
      · rename_i hne
        refine List.pairwise_cons.mpr ⟨fun c hc => ?_, ih h'.2⟩
        have hab : KLt K a b := by
          rcases ktri K a b with h | h | h
          · exact h
          · exact absurd h hne
          · exact absurd h (h'.1 b (List.mem_cons_self ..))
        rcases List.mem_cons.mp ((compS_mem _ c).mp hc) with e | e
        · subst e; exact hab
        · have hbc := (List.pairwise_cons.mp h'.2).1 c e
          rcases ktri K b c with h | h | h
          · exact ktrans K hab h
          · subst h; exact hab
          · exact absurd h hbc

theorem compS_set {l m : List α} (hp : m.Perm l) (h : m.Pairwise fun a b => ¬ KLt K b a) : compS m = setK K l :=
  setK_eq K (compS_strict K h) fun a => (compS_mem m a).trans hp.mem_iff
end

/-! ### Scans and blames -/
structure Scn where
  gate : Int
  number : Int
  time : Int
  serial : Int
  kind : Int
  owner : List UInt8
  deriving DecidableEq, Inhabited

structure Blm where
  kind : Int
  serial : Int
  gate : Int
  number : Int
  other : Int
  count : Int
  deriving DecidableEq, Inhabited

theorem bytes_inj : ∀ {a b : List UInt8}, a.map (fun c => (c.toNat : Int)) = b.map (fun c => (c.toNat : Int)) → a = b := by
  intro a
  induction a with
  | nil => intro b h; cases b with
    | nil => rfl
    | cons y b => simp at h
  | cons x a ih => intro b h; cases b with
    | nil => simp at h
    | cons y b =>
      simp only [List.map_cons, List.cons.injEq] at h
      have hx : x = y := UInt8.toNat_inj.mp (by omega)
      rw [hx, ih h.2]

def KS : KeyOf Scn := ⟨fun s => s.time :: s.gate :: s.number :: s.serial :: s.kind :: s.owner.map fun c => (c.toNat : Int), fun a b h => by
  obtain ⟨a1, a2, a3, a4, a5, a6⟩ := a
  obtain ⟨b1, b2, b3, b4, b5, b6⟩ := b
  simp only [List.cons.injEq] at h
  obtain ⟨rfl, rfl, rfl, rfl, rfl, h⟩ := h
  rw [bytes_inj h]⟩

def KB : KeyOf Blm := ⟨fun s => [s.kind, s.gate, s.number, s.serial, s.other, s.count], fun a b h => by
  obtain ⟨a1, a2, a3, a4, a5, a6⟩ := a
  obtain ⟨b1, b2, b3, b4, b5, b6⟩ := b
  simp only [List.cons.injEq, and_true] at h
  obtain ⟨rfl, rfl, rfl, rfl, rfl, rfl⟩ := h
  rfl⟩

def KI : KeyOf Int := ⟨fun n => [n], fun a b h => by simpa using h⟩
end Go.Proofs.Ytpmoelkblngamaa
