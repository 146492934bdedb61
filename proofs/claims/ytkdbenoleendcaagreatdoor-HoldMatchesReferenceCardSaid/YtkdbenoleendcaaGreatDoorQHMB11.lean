/- hold, plain: what the operations make of the places and the open holds; what stays true. -/
import Derived.WalkKit

namespace Go.Proofs.YtkdbenoleendcaaGreatDoor

abbrev SpT := Int × Int
abbrev NmT := List UInt8
/-- An open hold: its Id, its person, its places, its time, its class. -/
abbrev HoldT := Int × NmT × List Int × Int × Int

structure St where
  sp : List SpT
  last : Nat
  op : List HoldT

/-- The state of a place. -/
def spAt (sp : List SpT) (p : Nat) : SpT := sp.getD p (0, 0)

def inR (n : Nat) (p : Int) : Bool := decide (0 ≤ p) && decide (p < n)

def choiceB (n : Nat) (l : List Int) : Bool := (decide (1 ≤ l.length) && decide (l.length ≤ 12)) && (l.all (inR n) && decide l.Nodup)

def takenB (sp : List SpT) (p : Int) : Bool := decide ((spAt sp p.toNat).1 ≠ 0)

def markS (sp : List SpT) (l : List Int) (s : SpT) : List SpT := l.foldl (fun sp p => sp.set p.toNat s) sp

def okTake (st : St) (named : Bool) (l : List Int) (til cls : Int) : Bool :=
  (choiceB st.sp.length l && named) && ((decide (0 ≤ til) && decide (til ≤ 1000000000)) && (decide (0 ≤ cls) && decide (cls ≤ 9)))

def takeS (st : St) (named : Bool) (person : NmT) (l : List Int) (til cls : Int) : (Int × Int) × St :=
  if okTake st named l til cls = false then ((0, 1), st)
  else if 1000 ≤ st.op.length then ((0, 3), st)
  else if l.any (takenB st.sp) = true then ((0, 16), st)
  else ((((st.last + 1 : Nat) : Int), 0), ⟨markS st.sp l (1, ((st.last + 1 : Nat) : Int)), st.last + 1, st.op ++ [(((st.last + 1 : Nat) : Int), person, l, til, cls)]⟩)

def findH (op : List HoldT) (id : Int) : Option HoldT := op.find? fun h => decide (h.1 = id)

def setPl (op : List HoldT) (id : Int) (l : List Int) : List HoldT := op.map fun h => if h.1 = id then (h.1, h.2.1, l, h.2.2.2) else h

def swapS (st : St) (id : Int) (l : List Int) : Int × St :=
  if choiceB st.sp.length l = false then (1, st) else
  match findH st.op id with
  | none => (11, st)
  | some x =>
    if l.any (takenB (markS st.sp x.2.2.1 (0, 0))) = true then (16, ⟨markS (markS st.sp x.2.2.1 (0, 0)) x.2.2.1 (1, id), st.last, st.op⟩)
    else (0, ⟨markS (markS st.sp x.2.2.1 (0, 0)) l (1, id), st.last, setPl st.op id l⟩)

def dropH (op : List HoldT) (id : Int) : List HoldT := op.filter fun h => !decide (h.1 = id)

def endS (st : St) (id : Int) (s : SpT) : (List Int × Int) × St :=
  match findH st.op id with
  | none => (([], 11), st)
  | some x => ((x.2.2.1, 0), ⟨markS st.sp x.2.2.1 s, st.last, dropH st.op id⟩)

def overS (op : List HoldT) (now : Int) : List Int := (op.filter fun h => decide (h.2.2.2.1 < now)).map (·.1)

def endAll (st : St) (ids : List Int) : St := ids.foldl (fun st id => (endS st id (0, 0)).2) st

def expireS (st : St) (now : Int) : List Int × St := (overS st.op now, endAll st (overS st.op now))

def freeS (st : St) (p : Int) : Int × St :=
  if inR st.sp.length p = false then (1, st)
  else if (spAt st.sp p.toNat).1 ≠ 2 then (12, st)
  else (0, ⟨st.sp.set p.toNat (0, 0), st.last, st.op⟩)

def newS (n : Nat) : St := ⟨List.replicate n (0, 0), 0, []⟩

/-! ### Marks -/
theorem mark_len (l : List Int) (s : SpT) : ∀ sp : List SpT, (markS sp l s).length = sp.length := by
  induction l with
  | nil => intro sp; rfl
  | cons p l ih =>
    intro sp
    show (markS (sp.set p.toNat s) l s).length = _
    rw [ih, List.length_set]

theorem spAt_set (sp : List SpT) (i j : Nat) (s : SpT) (hi : i < sp.length) : spAt (sp.set i s) j = if i = j then s else spAt sp j := by
  unfold spAt
  rw [List.getD_eq_getElem?_getD, List.getD_eq_getElem?_getD, List.getElem?_set]
  by_cases e : i = j
  · subst e; simp [hi]
  · simp [e]

theorem inR_iff {n : Nat} {p : Int} : inR n p = true ↔ 0 ≤ p ∧ p < n := by simp [inR]

theorem mark_at (l : List Int) (s : SpT) : ∀ (sp : List SpT) (q : Nat), (∀ p ∈ l, 0 ≤ p ∧ p < sp.length) → spAt (markS sp l s) q = if (q : Int) ∈ l then s else spAt sp q := by
  induction l with
  | nil => intro sp q _; simp [markS]
  | cons p l ih =>
    intro sp q h
    have hp := h p (by simp)
    show spAt (markS (sp.set p.toNat s) l s) q = _
    rw [ih _ _ (fun x hx => by rw [List.length_set]; exact h x (by simp [hx])), spAt_set _ _ _ _ (by omega)]
    by_cases h1 : (q : Int) ∈ l
    · rw [if_pos h1, if_pos (by simp [h1])]
    · rw [if_neg h1]
      by_cases h2 : p.toNat = q
      · rw [if_pos h2, if_pos (by rw [← h2]; simp; left; omega)]
      · rw [if_neg h2, if_neg (by
          intro h3
          rcases List.mem_cons.mp h3 with e | e
          · omega
          · exact h1 e)]

theorem sp_ext {a b : List SpT} (hl : a.length = b.length) (h : ∀ q, q < a.length → spAt a q = spAt b q) : a = b := by
  refine List.ext_getElem hl fun i h1 h2 => ?_
  have := h i h1
  unfold spAt at this
  rw [List.getD_eq_getElem?_getD, List.getD_eq_getElem?_getD, List.getElem?_eq_getElem h1, List.getElem?_eq_getElem h2] at this
  exact this

theorem choice_iff {n : Nat} {l : List Int} : choiceB n l = true ↔ (1 ≤ l.length ∧ l.length ≤ 12) ∧ (∀ p ∈ l, 0 ≤ p ∧ p < n) ∧ l.Nodup := by
  unfold choiceB
  simp only [Bool.and_eq_true, decide_eq_true_eq, List.all_eq_true, inR_iff]

/-! ### What stays true -/
structure Inv (st : St) : Prop where
  ids : st.op.Pairwise fun a b => a.1 < b.1
  rng : ∀ h ∈ st.op, 1 ≤ h.1 ∧ h.1 ≤ st.last
  chs : ∀ h ∈ st.op, choiceB st.sp.length h.2.2.1 = true
  held : ∀ h ∈ st.op, ∀ p ∈ h.2.2.1, spAt st.sp p.toNat = (1, h.1)
  back : ∀ q, q < st.sp.length → (spAt st.sp q).1 = 1 → ∃ h ∈ st.op, (q : Int) ∈ h.2.2.1
  stt : ∀ q, q < st.sp.length → (spAt st.sp q).1 = 0 ∧ (spAt st.sp q).2 = 0 ∨ (spAt st.sp q).1 = 1 ∨ (spAt st.sp q).1 = 2
  lim : ∀ h ∈ st.op, 0 ≤ h.2.2.2.1 ∧ h.2.2.2.1 ≤ 1000000000 ∧ 0 ≤ h.2.2.2.2 ∧ h.2.2.2.2 ≤ 9

theorem Inv.rngP {st : St} (hi : Inv st) {h : HoldT} (hh : h ∈ st.op) : ∀ p ∈ h.2.2.1, 0 ≤ p ∧ p < st.sp.length := (choice_iff.mp (hi.chs h hh)).2.1

theorem new_inv (n : Nat) : Inv (newS n) := by
  have hz : ∀ q, spAt (List.replicate n (0, 0)) q = ((0, 0) : SpT) := fun q => by
    unfold spAt
    rw [List.getD_eq_getElem?_getD, List.getElem?_replicate]
    split <;> rfl
  refine ⟨List.Pairwise.nil, fun h hh => by simp [newS] at hh, fun h hh => by simp [newS] at hh, fun h hh => by simp [newS] at hh, fun q _ h => ?_, fun q _ => ?_, fun h hh => by simp [newS] at hh⟩
  · rw [show (newS n).sp = List.replicate n (0, 0) from rfl, hz] at h
    simp at h
  · rw [show (newS n).sp = List.replicate n (0, 0) from rfl, hz]
    simp

theorem find_some {op : List HoldT} {id : Int} {x : HoldT} (h : findH op id = some x) : x ∈ op ∧ x.1 = id := by
  have h1 := List.find?_some h
  have h2 := List.mem_of_find?_eq_some h
  exact ⟨h2, by simpa using h1⟩

theorem find_none {op : List HoldT} {id : Int} (h : findH op id = none) : ∀ x ∈ op, x.1 ≠ id := by
  intro x hx
  have := List.find?_eq_none.mp h x hx
  simpa using this

theorem Inv.uniq {st : St} (hi : Inv st) {a b : HoldT} (ha : a ∈ st.op) (hb : b ∈ st.op) (e : a.1 = b.1) : a = b := by
  have hp := hi.ids
  obtain ⟨i, hi', rfl⟩ := List.getElem_of_mem ha
  obtain ⟨j, hj', rfl⟩ := List.getElem_of_mem hb
  rcases Nat.lt_trichotomy i j with h | h | h
  · have := List.pairwise_iff_getElem.mp hp i j hi' hj' h; omega
  · subst h; rfl
  · have := List.pairwise_iff_getElem.mp hp j i hj' hi' h; omega

/-- A place that is in two open holds is in one. -/
theorem Inv.apart {st : St} (hi : Inv st) {a b : HoldT} (ha : a ∈ st.op) (hb : b ∈ st.op) {p : Int} (h1 : p ∈ a.2.2.1) (h2 : p ∈ b.2.2.1) : a = b := by
  have e1 := hi.held a ha p h1
  have e2 := hi.held b hb p h2
  rw [e1] at e2
  exact hi.uniq ha hb (congrArg Prod.snd e2)

theorem find_mem {st : St} (hi : Inv st) {x : HoldT} (h : x ∈ st.op) : findH st.op x.1 = some x := by
  cases hf : findH st.op x.1 with
  | none => exact absurd rfl (find_none hf x h)
  | some y =>
    have := find_some hf
    rw [hi.uniq this.1 h this.2]

theorem notTaken {sp : List SpT} {l : List Int} (h : l.any (takenB sp) = false) : ∀ p ∈ l, (spAt sp p.toNat).1 = 0 := by
  intro p hp
  have := List.any_eq_false.mp h p hp
  simpa [takenB] using this

theorem take_inv {st : St} (hi : Inv st) (named : Bool) (person : NmT) (l : List Int) (til cls : Int) : Inv (takeS st named person l til cls).2 := by
  unfold takeS
  split
  · exact hi
  · rename_i hok
    split
    · exact hi
    · split
      · exact hi
      · rename_i _ hnt
        have hok : okTake st named l til cls = true := by simpa using hok
        have hnt : l.any (takenB st.sp) = false := by simpa using hnt
        unfold okTake at hok
        simp only [Bool.and_eq_true, decide_eq_true_eq] at hok
        have hch := choice_iff.mp hok.1.1
        have hfree := notTaken hnt
        have hat := mark_at l (1, ((st.last + 1 : Nat) : Int)) st.sp
        refine ⟨?_, fun h hh => ?_, fun h hh => ?_, fun h hh p hp => ?_, fun q hq h1 => ?_, fun q hq => ?_, fun h hh => ?_⟩
        · dsimp only
          rw [List.pairwise_append]
          refine ⟨hi.ids, by simp, fun a ha b hb => ?_⟩
          rw [List.mem_singleton.mp hb]
          have := (hi.rng a ha).2
          show a.1 < ((st.last + 1 : Nat) : Int)
          omega
        · dsimp only at hh ⊢
          rcases List.mem_append.mp hh with hh | hh
          · have := hi.rng h hh; omega
          · rw [List.mem_singleton.mp hh]; show (1 : Int) ≤ ((st.last + 1 : Nat) : Int) ∧ _; omega
        · dsimp only at hh ⊢
          rw [mark_len]
          rcases List.mem_append.mp hh with hh | hh
          · exact hi.chs h hh
          · rw [List.mem_singleton.mp hh]; exact hok.1.1
        · dsimp only at hh ⊢
          rcases List.mem_append.mp hh with hh | hh
          · have hr := hi.rngP hh p hp
            have he := hi.held h hh p hp
            rw [hat p.toNat hch.2.1]
            have hpn : ((p.toNat : Nat) : Int) = p := by omega
            rw [hpn, if_neg (fun hpl => by have := hfree p hpl; rw [he] at this; simp at this)]
            exact he
          · rw [List.mem_singleton.mp hh] at hp ⊢
            have hr := hch.2.1 p hp
            rw [hat p.toNat hch.2.1]
            have hpn : ((p.toNat : Nat) : Int) = p := by omega
            rw [hpn, if_pos hp]
        · dsimp only at hq h1 ⊢
          rw [mark_len] at hq
          rw [hat q hch.2.1] at h1
          by_cases hql : (q : Int) ∈ l
          · exact ⟨_, List.mem_append_right _ (List.mem_singleton.mpr rfl), hql⟩
          · rw [if_neg hql] at h1
            obtain ⟨h, hh, hm⟩ := hi.back q hq h1
            exact ⟨h, List.mem_append_left _ hh, hm⟩
        · dsimp only at hq ⊢
          rw [mark_len] at hq
          rw [hat q hch.2.1]
          by_cases hql : (q : Int) ∈ l
          · rw [if_pos hql]; simp
          · rw [if_neg hql]; exact hi.stt q hq
        · dsimp only at hh
          rcases List.mem_append.mp hh with hh | hh
          · exact hi.lim h hh
          · rw [List.mem_singleton.mp hh]
            exact ⟨hok.2.1.1, hok.2.1.2, hok.2.2.1, hok.2.2.2⟩

theorem mem_drop {op : List HoldT} {id : Int} {h : HoldT} : h ∈ dropH op id ↔ h ∈ op ∧ h.1 ≠ id := by
  unfold dropH
  rw [List.mem_filter]
  simp

theorem end_inv {st : St} (hi : Inv st) (id : Int) (s : SpT) (hs : s = (0, 0) ∨ s.1 = 2) : Inv (endS st id s).2 := by
  unfold endS
  cases hf : findH st.op id with
  | none => exact hi
  | some x =>
    obtain ⟨hx, hxi⟩ := find_some hf
    have hr := hi.rngP hx
    have hat := mark_at x.2.2.1 s st.sp
    refine ⟨?_, fun h hh => ?_, fun h hh => ?_, fun h hh p hp => ?_, fun q hq h1 => ?_, fun q hq => ?_, fun h hh => ?_⟩
    · exact hi.ids.filter _
    · exact hi.rng h (mem_drop.mp hh).1
    · dsimp only at hh ⊢
      rw [mark_len]
      exact hi.chs h (mem_drop.mp hh).1
    · dsimp only at hh ⊢
      obtain ⟨h1, h2⟩ := mem_drop.mp hh
      have hp2 := hi.rngP h1 p hp
      have hpn : ((p.toNat : Nat) : Int) = p := by omega
      rw [hat p.toNat hr, hpn, if_neg (fun hpx => h2 (by rw [hi.apart h1 hx hp hpx]; exact hxi))]
      exact hi.held h h1 p hp
    · dsimp only at hq h1 ⊢
      rw [mark_len] at hq
      rw [hat q hr] at h1
      by_cases hqx : (q : Int) ∈ x.2.2.1
      · rw [if_pos hqx] at h1
        rcases hs with e | e
        · rw [e] at h1; simp at h1
        · omega
      · rw [if_neg hqx] at h1
        obtain ⟨h, hh, hm⟩ := hi.back q hq h1
        exact ⟨h, mem_drop.mpr ⟨hh, fun e => hqx (by rw [← hi.uniq hh hx (e.trans hxi.symm)]; exact hm)⟩, hm⟩
    · dsimp only at hq ⊢
      rw [mark_len] at hq
      rw [hat q hr]
      by_cases hqx : (q : Int) ∈ x.2.2.1
      · rw [if_pos hqx]
        rcases hs with e | e
        · left; rw [e]; exact ⟨rfl, rfl⟩
        · right; right; exact e
      · rw [if_neg hqx]; exact hi.stt q hq
    · exact hi.lim h (mem_drop.mp hh).1

theorem endAll_inv : ∀ (ids : List Int) {st : St}, Inv st → Inv (endAll st ids) := by
  intro ids
  induction ids with
  | nil => intro st h; exact h
  | cons id ids ih => intro st h; exact ih (end_inv h id (0, 0) (Or.inl rfl))

theorem expire_inv {st : St} (hi : Inv st) (now : Int) : Inv (expireS st now).2 := endAll_inv _ hi

theorem free_inv {st : St} (hi : Inv st) (p : Int) : Inv (freeS st p).2 := by
  unfold freeS
  split
  · exact hi
  · rename_i hr
    split
    · exact hi
    · rename_i h2
      have hr : inR st.sp.length p = true := by simpa using hr
      have hr := inR_iff.mp hr
      have h2 : (spAt st.sp p.toNat).1 = 2 := by simpa using h2
      have hat := fun q => spAt_set st.sp p.toNat q (0, 0) (by omega)
      refine ⟨hi.ids, hi.rng, fun h hh => ?_, fun h hh q hq => ?_, fun q hq h1 => ?_, fun q hq => ?_, hi.lim⟩
      · dsimp only; rw [List.length_set]; exact hi.chs h hh
      · dsimp only
        rw [hat, if_neg (fun e => ?_)]
        · exact hi.held h hh q hq
        · have := hi.held h hh q hq
          rw [← e] at this
          rw [this] at h2
          simp at h2
      · dsimp only at hq h1 ⊢
        rw [List.length_set] at hq
        rw [hat] at h1
        split at h1
        · simp at h1
        · exact hi.back q hq h1
      · dsimp only at hq ⊢
        rw [List.length_set] at hq
        rw [hat]
        split
        · left; exact ⟨rfl, rfl⟩
        · exact hi.stt q hq
end Go.Proofs.YtkdbenoleendcaaGreatDoor
