/- hold, plain: operations; the laws. -/
import Derived.Test.YtkdbenoleendcaaGreatDoorQHMB12

namespace Go.Proofs.YtkdbenoleendcaaGreatDoor

/-- An operation: its kind, its person, its places, its number, its class. -/
abbrev OpT := Int × NmT × List Int × Int × Int

/-- What an operation gives, and the state behind it. -/
def doS (nm : NmT → Bool) (st : St) (x : OpT) : (Int × List Int × Int) × St :=
  if x.1 = 0 then ((((takeS st (nm x.2.1) x.2.1 x.2.2.1 x.2.2.2.1 x.2.2.2.2).1.1, [], (takeS st (nm x.2.1) x.2.1 x.2.2.1 x.2.2.2.1 x.2.2.2.2).1.2)), (takeS st (nm x.2.1) x.2.1 x.2.2.1 x.2.2.2.1 x.2.2.2.2).2)
  else if x.1 = 1 then ((0, [], (swapS st x.2.2.2.1 x.2.2.1).1), (swapS st x.2.2.2.1 x.2.2.1).2)
  else if x.1 = 2 then ((0, [], (endS st x.2.2.2.1 (0, 0)).1.2), (endS st x.2.2.2.1 (0, 0)).2)
  else if x.1 = 3 then ((0, (expireS st x.2.2.2.1).1, 0), (expireS st x.2.2.2.1).2)
  else if x.1 = 4 then ((0, (endS st x.2.2.2.1 (2, x.2.2.2.1)).1.1, (endS st x.2.2.2.1 (2, x.2.2.2.1)).1.2), (endS st x.2.2.2.1 (2, x.2.2.2.1)).2)
  else ((0, [], (freeS st x.2.2.2.1).1), (freeS st x.2.2.2.1).2)

def playS (nm : NmT → Bool) (st : St) (l : List OpT) : St := l.foldl (fun st x => (doS nm st x).2) st

theorem do_inv {nm : NmT → Bool} {st : St} (hi : Inv st) (x : OpT) : Inv (doS nm st x).2 := by
  unfold doS
  split
  · exact take_inv hi _ _ _ _ _
  · split
    · exact swap_inv hi _ _
    · split
      · exact end_inv hi _ _ (Or.inl rfl)
      · split
        · exact expire_inv hi _
        · split
          · exact end_inv hi _ _ (Or.inr rfl)
          · exact free_inv hi _

theorem play_inv {nm : NmT → Bool} : ∀ (l : List OpT) {st : St}, Inv st → Inv (playS nm st l) := by
  intro l
  induction l with
  | nil => intro st h; exact h
  | cons x l ih => intro st h; exact ih (do_inv h x)

theorem play_take {nm : NmT → Bool} {st : St} {l : List OpT} {i : Nat} (hi : i < l.length) : playS nm st (l.take (i + 1)) = (doS nm (playS nm st (l.take i)) l[i]).2 := by
  unfold playS
  rw [List.take_succ_eq_append_getElem hi, List.foldl_append]
  rfl

theorem take_err {st : St} {named : Bool} {person : NmT} {l : List Int} {til cls : Int} (h : (takeS st named person l til cls).1.2 ≠ 0) : (takeS st named person l til cls).2 = st := by
  unfold takeS at h ⊢
  split
  · rfl
  · rename_i h1
    rw [if_neg h1] at h
    split
    · rfl
    · rename_i h2
      rw [if_neg h2] at h
      split
      · rfl
      · rename_i h3
        rw [if_neg h3] at h
        exact absurd rfl h

theorem end_err {st : St} {id : Int} {s : SpT} (h : (endS st id s).1.2 ≠ 0) : (endS st id s).2 = st := by
  unfold endS at h ⊢
  cases hf : findH st.op id with
  | none => rfl
  | some x => rw [hf] at h; exact absurd rfl h

theorem free_err {st : St} {p : Int} (h : (freeS st p).1 ≠ 0) : (freeS st p).2 = st := by
  unfold freeS at h ⊢
  split
  · rfl
  · rename_i h1
    rw [if_neg h1] at h
    split
    · rfl
    · rename_i h2
      rw [if_neg h2] at h
      exact absurd rfl h

/-- An operation that has an error changes nothing. -/
theorem do_same {nm : NmT → Bool} {st : St} (hi : Inv st) {x : OpT} (h : (doS nm st x).1.2.2 ≠ 0) : (doS nm st x).2 = st := by
  unfold doS at h ⊢
  by_cases h0 : x.1 = 0
  · rw [if_pos h0] at h ⊢; exact take_err h
  · rw [if_neg h0] at h ⊢
    by_cases h1 : x.1 = 1
    · rw [if_pos h1] at h ⊢; exact swap_same hi h
    · rw [if_neg h1] at h ⊢
      by_cases h2 : x.1 = 2
      · rw [if_pos h2] at h ⊢; exact end_err h
      · rw [if_neg h2] at h ⊢
        by_cases h3 : x.1 = 3
        · rw [if_pos h3] at h; exact absurd rfl h
        · rw [if_neg h3] at h ⊢
          by_cases h4 : x.1 = 4
          · rw [if_pos h4] at h ⊢; exact end_err h
          · rw [if_neg h4] at h ⊢; exact free_err h

/-! ### Sold places -/
theorem take_sold {st : St} {named : Bool} {person : NmT} {l : List Int} {til cls : Int} {q : Nat} (hs : (spAt st.sp q).1 = 2) : spAt (takeS st named person l til cls).2.sp q = spAt st.sp q := by
  unfold takeS
  split
  · rfl
  · rename_i hok
    split
    · rfl
    · split
      · rfl
      · rename_i _ hnt
        have hok : okTake st named l til cls = true := by simpa using hok
        have hnt : l.any (takenB st.sp) = false := by simpa using hnt
        unfold okTake at hok
        simp only [Bool.and_eq_true] at hok
        have hch := choice_iff.mp hok.1.1
        dsimp only
        rw [mark_at _ _ _ _ hch.2.1, if_neg]
        intro hq
        have := notTaken hnt q hq
        have e : ((q : Int)).toNat = q := by omega
        rw [e, hs] at this
        simp at this

theorem end_sold {st : St} (hi : Inv st) {id : Int} {s : SpT} {q : Nat} (hs : (spAt st.sp q).1 = 2) : spAt (endS st id s).2.sp q = spAt st.sp q := by
  unfold endS
  cases hf : findH st.op id with
  | none => rfl
  | some x =>
    obtain ⟨hx, _⟩ := find_some hf
    dsimp only
    rw [mark_at _ _ _ _ (hi.rngP hx), if_neg]
    intro hq
    have := hi.held x hx q hq
    have e : ((q : Int)).toNat = q := by omega
    rw [e] at this
    rw [this] at hs
    simp at hs

theorem endAll_sold : ∀ (ids : List Int) {st : St}, Inv st → ∀ {q : Nat}, (spAt st.sp q).1 = 2 → spAt (endAll st ids).sp q = spAt st.sp q := by
  intro ids
  induction ids with
  | nil => intro st _ q _; rfl
  | cons id ids ih =>
    intro st hi q hs
    have h1 := end_sold (id := id) (s := (0, 0)) hi hs
    have h2 := ih (end_inv hi id (0, 0) (Or.inl rfl)) (q := q) (by rw [h1]; exact hs)
    show spAt (endAll (endS st id (0, 0)).2 ids).sp q = _
    rw [h2, h1]

theorem swap_sold {st : St} (hi : Inv st) {id : Int} {l : List Int} {q : Nat} (hs : (spAt st.sp q).1 = 2) : spAt (swapS st id l).2.sp q = spAt st.sp q := by
  by_cases h0 : (swapS st id l).1 = 0
  · obtain ⟨x, hw⟩ := swap_ok hi h0
    have hch := choice_iff.mp hw.ch
    have hr := hi.rngP hw.mem
    have e : ((q : Int)).toNat = q := by omega
    have hqx : (q : Int) ∉ x.2.2.1 := fun hq => by
      have := hi.held x hw.mem q hq
      rw [e] at this
      rw [this] at hs
      simp at hs
    have hql : (q : Int) ∉ l := fun hq => by
      rcases hw.free q hq with h | h
      · rw [e, hs] at h; simp at h
      · exact hqx h
    rw [hw.out]
    dsimp only
    rw [mark_at _ _ _ _ (fun p hp => by rw [mark_len]; exact hch.2.1 p hp), mark_at _ _ _ _ hr, if_neg hql, if_neg hqx]
  · rw [swap_same hi h0]

/-- A sold place stays so, but for an operation that frees it. -/
theorem do_sold {nm : NmT → Bool} {st : St} (hi : Inv st) {x : OpT} {q : Nat} (hs : (spAt st.sp q).1 = 2) (hf : ¬ ((x.1 < 0 ∨ 4 < x.1) ∧ x.2.2.2.1 = (q : Int))) : spAt (doS nm st x).2.sp q = spAt st.sp q := by
  unfold doS
  by_cases h0 : x.1 = 0
  · rw [if_pos h0]; exact take_sold hs
  · rw [if_neg h0]
    by_cases h1 : x.1 = 1
    · rw [if_pos h1]; exact swap_sold hi hs
    · rw [if_neg h1]
      by_cases h2 : x.1 = 2
      · rw [if_pos h2]; exact end_sold hi hs
      · rw [if_neg h2]
        by_cases h3 : x.1 = 3
        · rw [if_pos h3]; exact endAll_sold _ hi hs
        · rw [if_neg h3]
          by_cases h4 : x.1 = 4
          · rw [if_pos h4]; exact end_sold hi hs
          · rw [if_neg h4]
            dsimp only
            unfold freeS
            split
            · rfl
            · rename_i hr
              split
              · rfl
              · have hr : inR st.sp.length x.2.2.2.1 = true := by simpa using hr
                have hr := inR_iff.mp hr
                dsimp only
                rw [spAt_set _ _ _ _ (by omega), if_neg]
                intro e
                exact hf ⟨by omega, by omega⟩

theorem do_len {nm : NmT → Bool} {st : St} (x : OpT) : (doS nm st x).2.sp.length = st.sp.length := by
  unfold doS
  split
  · unfold takeS
    split
    · rfl
    · split
      · rfl
      · split
        · rfl
        · dsimp only; rw [mark_len]
  · split
    · unfold swapS
      split
      · rfl
      · cases findH st.op x.2.2.2.1 with
        | none => rfl
        | some y =>
          dsimp only
          split
          · dsimp only; rw [mark_len, mark_len]
          · dsimp only; rw [mark_len, mark_len]
    · split
      · exact end_len _ _ _
      · split
        · have key : ∀ (ids : List Int) (st : St), (endAll st ids).sp.length = st.sp.length := by
            intro ids
            induction ids with
            | nil => intro st; rfl
            | cons id ids ih => intro st; show (endAll (endS st id (0, 0)).2 ids).sp.length = _; rw [ih, end_len]
          exact key _ _
        · split
          · exact end_len _ _ _
          · dsimp only
            unfold freeS
            split
            · rfl
            · split
              · rfl
              · dsimp only; rw [List.length_set]

theorem play_len {nm : NmT → Bool} : ∀ (l : List OpT) (st : St), (playS nm st l).sp.length = st.sp.length := by
  intro l
  induction l with
  | nil => intro st; rfl
  | cons x l ih => intro st; show (playS nm (doS nm st x).2 l).sp.length = _; rw [ih, do_len]

/-! ### Time -/
theorem mem_over {op : List HoldT} {now id : Int} : id ∈ overS op now ↔ ∃ h ∈ op, h.1 = id ∧ h.2.2.2.1 < now := by
  unfold overS
  simp only [List.mem_map, List.mem_filter, decide_eq_true_eq]
  constructor
  · rintro ⟨h, ⟨h1, h2⟩, h3⟩; exact ⟨h, h1, h3, h2⟩
  · rintro ⟨h, h1, h3, h2⟩; exact ⟨h, ⟨h1, h2⟩, h3⟩

theorem expire_op {st : St} (hi : Inv st) (now : Int) : (expireS st now).2.op = st.op.filter (fun h => !decide (h.2.2.2.1 < now)) := by
  show (endAll st (overS st.op now)).op = _
  rw [(endAll_is _ hi).1]
  refine List.filter_congr fun h hh => ?_
  congr 1
  rw [decide_eq_decide, mem_over]
  constructor
  · rintro ⟨y, hy, e, hlt⟩; rw [← hi.uniq hy hh e]; exact hlt
  · intro hlt; exact ⟨h, hh, rfl, hlt⟩

theorem expire_sp {st : St} (hi : Inv st) (now : Int) (q : Nat) : spAt (expireS st now).2.sp q = if (∃ h ∈ st.op, h.2.2.2.1 < now ∧ (q : Int) ∈ h.2.2.1) then (0, 0) else spAt st.sp q := by
  show spAt (endAll st (overS st.op now)).sp q = _
  rw [(endAll_is _ hi).2.2.2]
  have e : (∃ h ∈ st.op, h.1 ∈ overS st.op now ∧ (q : Int) ∈ h.2.2.1) ↔ (∃ h ∈ st.op, h.2.2.2.1 < now ∧ (q : Int) ∈ h.2.2.1) := by
    constructor
    · rintro ⟨h, hh, hm, hq⟩
      obtain ⟨y, hy, e, hlt⟩ := mem_over.mp hm
      exact ⟨h, hh, by rw [← hi.uniq hy hh e]; exact hlt, hq⟩
    · rintro ⟨h, hh, hlt, hq⟩
      exact ⟨h, hh, mem_over.mpr ⟨h, hh, rfl, hlt⟩, hq⟩
  by_cases h : ∃ h ∈ st.op, h.2.2.2.1 < now ∧ (q : Int) ∈ h.2.2.1
  · rw [if_pos h, if_pos (e.mpr h)]
  · rw [if_neg h, if_neg (fun h' => h (e.mp h'))]

theorem expire_last {st : St} (hi : Inv st) (now : Int) : (expireS st now).2.last = st.last := (endAll_is _ hi).2.1
theorem expire_len {st : St} (hi : Inv st) (now : Int) : (expireS st now).2.sp.length = st.sp.length := (endAll_is _ hi).2.2.1

/-- A lesser time ahead of the greater one makes no difference. -/
theorem expire_two {st : St} (hi : Inv st) {a b : Int} (h : a ≤ b) : (expireS (expireS st a).2 b).2 = (expireS st b).2 := by
  have h1 := expire_inv hi a
  refine St.ext' (sp_ext (by rw [expire_len h1, expire_len hi, expire_len hi]) fun q hq => ?_) (by rw [expire_last h1, expire_last hi, expire_last hi]) ?_
  · rw [expire_sp h1, expire_sp hi, expire_op hi, expire_sp hi]
    by_cases hb : ∃ h ∈ st.op, h.2.2.2.1 < b ∧ (q : Int) ∈ h.2.2.1
    · rw [if_pos hb]
      split
      · rfl
      · rename_i hn
        rw [if_pos]
        obtain ⟨y, hy, hlt, hm⟩ := hb
        by_cases hya : y.2.2.2.1 < a
        · exact ⟨y, hy, hya, hm⟩
        · exact absurd ⟨y, List.mem_filter.mpr ⟨hy, by simp [hya]⟩, hlt, hm⟩ hn
    · rw [if_neg hb, if_neg (fun hc => ?_), if_neg (fun hc => ?_)]
      · obtain ⟨y, hy, hlt, hm⟩ := hc
        exact hb ⟨y, hy, by omega, hm⟩
      · obtain ⟨y, hy, hlt, hm⟩ := hc
        exact hb ⟨y, (List.mem_filter.mp hy).1, hlt, hm⟩
  · rw [expire_op h1, expire_op hi, expire_op hi, List.filter_filter]
    refine List.filter_congr fun y _ => ?_
    by_cases hyb : y.2.2.2.1 < b
    · simp [hyb]
    · have : ¬ y.2.2.2.1 < a := by omega
      simp [hyb, this]
end Go.Proofs.YtkdbenoleendcaaGreatDoor
