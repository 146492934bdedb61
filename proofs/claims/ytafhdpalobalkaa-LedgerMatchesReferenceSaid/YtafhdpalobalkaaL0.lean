/- ledger, plain: accounts, postings, bookings; the order of accounts; the balances as a list. -/
import Derived.WalkKit
namespace Go.Proofs.Ytafhdpalobalkaa

abbrev Name := List UInt8
/-- An account: its kind and its name. -/
abbrev AccT := Int × Name
/-- A posting: an account and an amount. -/
abbrev PostT := AccT × Int
/-- A booking: its Id and its postings. -/
abbrev BookT := Int × List PostT

/-! ### The order of names and accounts -/
theorem nl_irrefl : ∀ x : Name, Op.bytesLess x x = false
  | [] => rfl
  | a :: x => by
    have := nl_irrefl x
    simp [Op.bytesLess, this]

theorem nl_trans : ∀ {x y z : Name}, Op.bytesLess x y = true → Op.bytesLess y z = true → Op.bytesLess x z = true
  | _, [], _, h, _ => by cases ‹Name› <;> simp [Op.bytesLess] at h
  | _, _ :: _, [], _, h => by simp [Op.bytesLess] at h
  | [], _ :: _, _ :: _, _, _ => rfl
  | a :: x, b :: y, c :: z, h1, h2 => by
    simp only [Op.bytesLess, Bool.or_eq_true, decide_eq_true_eq, Bool.and_eq_true, beq_iff_eq] at h1 h2 ⊢
    rcases h1 with h1 | ⟨rfl, h1⟩
    · rcases h2 with h2 | ⟨rfl, _⟩
      · exact Or.inl (UInt8.lt_trans h1 h2)
      · exact Or.inl h1
    · rcases h2 with h2 | ⟨rfl, h2⟩
      · exact Or.inl h2
      · exact Or.inr ⟨rfl, nl_trans h1 h2⟩

theorem nl_total : ∀ {x y : Name}, x ≠ y → Op.bytesLess x y = true ∨ Op.bytesLess y x = true
  | [], [], h => absurd rfl h
  | [], _ :: _, _ => Or.inl rfl
  | _ :: _, [], _ => Or.inr rfl
  | a :: x, b :: y, h => by
    simp only [Op.bytesLess, Bool.or_eq_true, decide_eq_true_eq, Bool.and_eq_true, beq_iff_eq]
    by_cases e : a = b
    · subst e
      rcases nl_total (x := x) (y := y) (fun e => h (by rw [e])) with h | h
      · exact Or.inl (Or.inr ⟨rfl, h⟩)
      · exact Or.inr (Or.inr ⟨rfl, h⟩)
    · rcases UInt8.lt_or_lt_of_ne e with h | h
      · exact Or.inl (Or.inl h)
      · exact Or.inr (Or.inl h)

/-- Whether an account comes before another one. -/
def befA (a b : AccT) : Bool := decide (a.1 < b.1) || (decide (a.1 = b.1) && Op.bytesLess a.2 b.2)

theorem bef_iff {a b : AccT} : befA a b = true ↔ a.1 < b.1 ∨ (a.1 = b.1 ∧ Op.bytesLess a.2 b.2 = true) := by simp [befA]

theorem befA_irrefl (a : AccT) : befA a a = false := by simp [befA, nl_irrefl]

theorem befA_trans {a b c : AccT} (h1 : befA a b = true) (h2 : befA b c = true) : befA a c = true := by
  rw [bef_iff] at *
  rcases h1 with h1 | ⟨e1, h1⟩ <;> rcases h2 with h2 | ⟨e2, h2⟩
  · left; omega
  · left; omega
  · left; omega
  · right; exact ⟨by omega, nl_trans h1 h2⟩

theorem befA_total {a b : AccT} (h : a ≠ b) : befA a b = true ∨ befA b a = true := by
  rw [bef_iff, bef_iff]
  rcases Int.lt_trichotomy a.1 b.1 with h1 | h1 | h1
  · exact Or.inl (Or.inl h1)
  · have h2 : a.2 ≠ b.2 := fun e => h (Prod.ext h1 e)
    rcases nl_total h2 with h3 | h3
    · exact Or.inl (Or.inr ⟨h1, h3⟩)
    · exact Or.inr (Or.inr ⟨h1.symm, h3⟩)
  · exact Or.inr (Or.inl h1)

theorem befA_asymm {a b : AccT} (h : befA a b = true) : befA b a = false := by
  cases h2 : befA b a
  · rfl
  · have := befA_trans h h2
    rw [befA_irrefl] at this
    simp at this

/-! ### The balances as a list -/
/-- A list of the amounts that are not 0, in order. -/
structure IsBal (L : List PostT) (f : AccT → Int) : Prop where
  sorted : L.Pairwise fun x y => befA x.1 y.1 = true
  mem : ∀ x ∈ L, f x.1 = x.2 ∧ x.2 ≠ 0
  all : ∀ a, f a ≠ 0 → (a, f a) ∈ L

theorem IsBal.unique : ∀ {L L' : List PostT} {f : AccT → Int}, IsBal L f → IsBal L' f → L = L' := by
  have key : ∀ (L L' : List PostT), (L.Pairwise fun x y => befA x.1 y.1 = true) → (L'.Pairwise fun x y => befA x.1 y.1 = true) → (∀ x, x ∈ L ↔ x ∈ L') → L = L' := by
    intro L
    induction L with
    | nil =>
      intro L' _ _ h
      cases L' with
      | nil => rfl
      | cons y L' => exact absurd ((h y).mpr (by simp)) (by simp)
    | cons x L ih =>
      intro L' h1 h2 h
      cases L' with
      | nil => exact absurd ((h x).mp (by simp)) (by simp)
      | cons y L' =>
        rw [List.pairwise_cons] at h1 h2
        have hxy : x = y := by
          rcases List.mem_cons.mp ((h x).mp (by simp)) with e | hx
          · exact e
          · rcases List.mem_cons.mp ((h y).mpr (by simp)) with e | hy
            · exact e.symm
            · have b1 := h1.1 y hy
              have b2 := h2.1 x hx
              rw [befA_asymm b1] at b2
              simp at b2
        subst hxy
        rw [ih L' h1.2 h2.2 (fun z => ⟨fun hz => by
          rcases List.mem_cons.mp ((h z).mp (by simp [hz])) with e | hz'
          · have := h1.1 z hz; rw [e, befA_irrefl] at this; simp at this
          · exact hz', fun hz => by
          rcases List.mem_cons.mp ((h z).mpr (by simp [hz])) with e | hz'
          · have := h2.1 z hz; rw [e, befA_irrefl] at this; simp at this
          · exact hz'⟩)]
  intro L L' f h h'
  refine key L L' h.sorted h'.sorted fun x => ⟨fun hx => ?_, fun hx => ?_⟩
  · obtain ⟨e, hne⟩ := h.mem x hx
    have := h'.all x.1 (by rw [e]; exact hne)
    rw [e] at this
    exact this
  · obtain ⟨e, hne⟩ := h'.mem x hx
    have := h.all x.1 (by rw [e]; exact hne)
    rw [e] at this
    exact this

theorem isBal_nil : IsBal [] (fun _ => 0) := ⟨List.Pairwise.nil, fun x hx => by simp at hx, fun a h => absurd rfl h⟩

/-- The list with a further posting. -/
def addS : List PostT → PostT → List PostT
  | [], p => if p.2 = 0 then [] else [p]
  | x :: L, p => if befA x.1 p.1 = true then x :: addS L p else if x.1 = p.1 then (if p.2 + x.2 = 0 then L else (p.1, p.2 + x.2) :: L) else if p.2 = 0 then x :: L else p :: x :: L

theorem add_mem : ∀ (L : List PostT) (p : PostT), ∀ y ∈ addS L p, y ∈ L ∨ y.1 = p.1
  | [], p, y, h => by
    rw [addS] at h
    split at h
    · simp at h
    · right; rw [List.mem_singleton.mp h]
  | x :: L, p, y, h => by
    rw [addS] at h
    split at h
    · rcases List.mem_cons.mp h with e | h
      · left; rw [e]; simp
      · rcases add_mem L p y h with h | h
        · left; simp [h]
        · right; exact h
    · split at h
      · split at h
        · left; simp [h]
        · rcases List.mem_cons.mp h with e | h
          · right; rw [e]
          · left; simp [h]
      · split at h
        · left; exact h
        · rcases List.mem_cons.mp h with e | h
          · right; rw [e]
          · left; exact h

/-- A function with a further posting. -/
def plusF (f : AccT → Int) (p : PostT) (a : AccT) : Int := f a + if a = p.1 then p.2 else 0

theorem add_isBal : ∀ {L : List PostT} {f : AccT → Int} (p : PostT), IsBal L f → IsBal (addS L p) (plusF f p) := by
  intro L
  induction L with
  | nil =>
    intro f p h
    have hf : ∀ a, f a = 0 := fun a => Classical.byContradiction fun hne => by have := h.all a hne; simp at this
    rw [addS]
    split
    · rename_i h0
      refine ⟨List.Pairwise.nil, fun x hx => by simp at hx, fun a ha => absurd ?_ ha⟩
      unfold plusF
      rw [hf a, h0]
      split <;> rfl
    · rename_i h0
      refine ⟨List.pairwise_singleton _ _, fun x hx => ?_, fun a ha => ?_⟩
      · rw [List.mem_singleton.mp hx]
        unfold plusF
        rw [hf, if_pos rfl]
        exact ⟨by omega, h0⟩
      · unfold plusF at ha ⊢
        rw [hf] at ha ⊢
        by_cases e : a = p.1
        · rw [if_pos e, e]; simp
        · rw [if_neg e] at ha; exact absurd rfl ha
  | cons x L ih =>
    intro f p h
    have hs := List.pairwise_cons.mp h.sorted
    have hx := h.mem x (by simp)
    have hout : ∀ a, a ≠ x.1 → f a ≠ 0 → (a, f a) ∈ L := fun a ha hf => by
      rcases List.mem_cons.mp (h.all a hf) with e | e
      · exact absurd (by rw [← e]) ha
      · exact e
    -- what the tail is of
    have hL : IsBal L (fun a => if a = x.1 then 0 else f a) := by
      refine ⟨hs.2, fun y hy => ?_, fun a ha => ?_⟩
      · have hb := hs.1 y hy
        have : y.1 ≠ x.1 := fun e => by rw [e, befA_irrefl] at hb; simp at hb
        rw [if_neg this]
        exact h.mem y (by simp [hy])
      · by_cases e : a = x.1
        · rw [if_pos e] at ha; exact absurd rfl ha
        · rw [if_neg e] at ha ⊢
          exact hout a e ha
    rw [addS]
    split
    · rename_i hb
      have hne : p.1 ≠ x.1 := fun e => by rw [e, befA_irrefl] at hb; simp at hb
      have hi := ih p hL
      refine ⟨List.pairwise_cons.mpr ⟨fun y hy => ?_, hi.sorted⟩, fun y hy => ?_, fun a ha => ?_⟩
      · rcases add_mem L p y hy with h1 | h1
        · exact hs.1 y h1
        · rw [h1]; exact hb
      · rcases List.mem_cons.mp hy with e | hy
        · rw [e]
          unfold plusF
          rw [if_neg hne.symm]
          exact ⟨by omega, hx.2⟩
        · have h1 := hi.mem y hy
          have h2 : y.1 ≠ x.1 := fun e => by
            rcases add_mem L p y hy with h3 | h3
            · have := hs.1 y h3; rw [e, befA_irrefl] at this; simp at this
            · exact hne (by rw [← h3, e])
          unfold plusF at h1 ⊢
          dsimp only at h1 ⊢
          rw [if_neg h2] at h1
          exact h1
      · by_cases e : a = x.1
        · subst e
          unfold plusF
          rw [if_neg hne.symm]
          have : (x.1, f x.1 + 0) = x := by rw [hx.1]; simp
          rw [this]
          simp
        · have h1 := hi.all a (by unfold plusF at ha ⊢; dsimp only; rw [if_neg e]; exact ha)
          unfold plusF at h1 ⊢
          dsimp only at h1 ⊢
          rw [if_neg e] at h1
          exact List.mem_cons_of_mem _ h1
    · rename_i hnb
      split
      · rename_i he
        have hfun : ∀ a, plusF f p a = if a = x.1 then p.2 + x.2 else f a := fun a => by
          unfold plusF
          by_cases e : a = x.1
          · rw [if_pos e, if_pos (by rw [e, he]), e, hx.1]; omega
          · rw [if_neg e, if_neg (by rw [← he]; exact e)]; omega
        split
        · rename_i h0
          refine ⟨hs.2, fun y hy => ?_, fun a ha => ?_⟩
          · have h1 := hL.mem y hy
            have h2 : y.1 ≠ x.1 := fun e => by have := hs.1 y hy; rw [e, befA_irrefl] at this; simp at this
            rw [hfun, if_neg h2]
            rw [if_neg h2] at h1
            exact h1
          · rw [hfun] at ha ⊢
            by_cases e : a = x.1
            · rw [if_pos e] at ha; exact absurd h0 ha
            · rw [if_neg e] at ha ⊢; exact hout a e ha
        · rename_i h0
          refine ⟨List.pairwise_cons.mpr ⟨fun y hy => by show befA p.1 y.1 = true; rw [← he]; exact hs.1 y hy, hs.2⟩, fun y hy => ?_, fun a ha => ?_⟩
          · rcases List.mem_cons.mp hy with e | hy
            · rw [e, hfun]
              show (if p.1 = x.1 then _ else _) = _ ∧ _
              rw [if_pos he.symm]
              exact ⟨rfl, h0⟩
            · have h1 := hL.mem y hy
              have h2 : y.1 ≠ x.1 := fun e => by have := hs.1 y hy; rw [e, befA_irrefl] at this; simp at this
              rw [hfun, if_neg h2]
              rw [if_neg h2] at h1
              exact h1
          · rw [hfun] at ha ⊢
            by_cases e : a = x.1
            · rw [if_pos e, e, he]; simp
            · rw [if_neg e] at ha ⊢
              exact List.mem_cons_of_mem _ (hout a e ha)
      · rename_i hne
        have hpx : befA p.1 x.1 = true := (befA_total hne).resolve_left hnb
        have hp0 : f p.1 = 0 := Classical.byContradiction fun hf => by
          have := hout p.1 (fun e => hne e.symm) hf
          have h2 := befA_trans hpx (hs.1 _ this)
          rw [befA_irrefl] at h2
          simp at h2
        split
        · rename_i h0
          have hfun : ∀ a, plusF f p a = f a := fun a => by unfold plusF; rw [h0]; split <;> omega
          exact ⟨h.sorted, fun y hy => by rw [hfun]; exact h.mem y hy, fun a ha => by rw [hfun] at ha ⊢; exact h.all a ha⟩
        · rename_i h0
          refine ⟨List.pairwise_cons.mpr ⟨fun y hy => ?_, h.sorted⟩, fun y hy => ?_, fun a ha => ?_⟩
          · rcases List.mem_cons.mp hy with e | hy
            · rw [e]; exact hpx
            · exact befA_trans hpx (hs.1 y hy)
          · rcases List.mem_cons.mp hy with e | hy
            · rw [e]
              unfold plusF
              rw [hp0, if_pos rfl]
              exact ⟨by omega, h0⟩
            · have h1 := h.mem y hy
              have h2 : y.1 ≠ p.1 := fun e => by rw [e] at h1; rw [hp0] at h1; exact h1.2 h1.1.symm
              unfold plusF
              rw [if_neg h2]
              exact ⟨by omega, h1.2⟩
          · unfold plusF at ha ⊢
            by_cases e : a = p.1
            · rw [if_pos e, e, hp0]; simp
            · rw [if_neg e] at ha ⊢
              have := h.all a (by omega)
              rw [Int.add_zero]
              exact List.mem_cons_of_mem _ this
end Go.Proofs.Ytafhdpalobalkaa
