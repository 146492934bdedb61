/- hold, plain: swaps, and ending several holds. -/
import Derived.Test.YtkdbenoleendcaaGreatDoorQHMB11

namespace Go.Proofs.YtkdbenoleendcaaGreatDoor

theorem St.ext' {a b : St} (h1 : a.sp = b.sp) (h2 : a.last = b.last) (h3 : a.op = b.op) : a = b := by
  cases a; cases b
  simp only at h1 h2 h3
  subst h1 h2 h3
  rfl

/-- Giving places up and taking them again changes nothing. -/
theorem mark_back {st : St} (hi : Inv st) {x : HoldT} (hx : x ∈ st.op) : markS (markS st.sp x.2.2.1 (0, 0)) x.2.2.1 (1, x.1) = st.sp := by
  have hr := hi.rngP hx
  refine sp_ext (by rw [mark_len, mark_len]) fun q hq => ?_
  rw [mark_at _ _ _ _ (fun p hp => by rw [mark_len]; exact hr p hp), mark_at _ _ _ _ hr]
  by_cases h : (q : Int) ∈ x.2.2.1
  · rw [if_pos h]
    have := hi.held x hx q h
    simpa using this.symm
  · rw [if_neg h, if_neg h]

/-- A swap that has an error changes nothing. -/
theorem swap_same {st : St} (hi : Inv st) {id : Int} {l : List Int} (h : (swapS st id l).1 ≠ 0) : (swapS st id l).2 = st := by
  unfold swapS at h ⊢
  split at h
  · rename_i h1; rw [if_pos h1]
  · rename_i h1
    rw [if_neg h1]
    cases hf : findH st.op id with
    | none => rfl
    | some x =>
      obtain ⟨hx, hxi⟩ := find_some hf
      rw [hf] at h
      dsimp only at h ⊢
      split at h
      · rename_i h2
        rw [if_pos h2]
        dsimp only
        refine St.ext' ?_ rfl rfl
        rw [← hxi]
        exact mark_back hi hx
      · exact absurd rfl h

/-- What a swap that is made asks for, and makes. -/
structure Swapped (st : St) (id : Int) (l : List Int) (x : HoldT) : Prop where
  ch : choiceB st.sp.length l = true
  mem : x ∈ st.op
  hid : x.1 = id
  free : ∀ p ∈ l, (spAt st.sp p.toNat).1 = 0 ∨ p ∈ x.2.2.1
  out : (swapS st id l).2 = ⟨markS (markS st.sp x.2.2.1 (0, 0)) l (1, id), st.last, setPl st.op id l⟩

theorem swap_ok {st : St} (hi : Inv st) {id : Int} {l : List Int} (h : (swapS st id l).1 = 0) : ∃ x, Swapped st id l x := by
  unfold swapS at h
  split at h
  · simp at h
  · rename_i h1
    have h1 : choiceB st.sp.length l = true := by simpa using h1
    cases hf : findH st.op id with
    | none => rw [hf] at h; simp at h
    | some x =>
      obtain ⟨hx, hxi⟩ := find_some hf
      rw [hf] at h
      dsimp only at h
      split at h
      · simp at h
      · rename_i h2
        have h2 : l.any (takenB (markS st.sp x.2.2.1 (0, 0))) = false := by simpa using h2
        refine ⟨x, h1, hx, hxi, fun p hp => ?_, ?_⟩
        · have h3 := notTaken h2 p hp
          have hpr := (choice_iff.mp h1).2.1 p hp
          rw [mark_at _ _ _ _ (hi.rngP hx)] at h3
          have hpn : ((p.toNat : Nat) : Int) = p := by omega
          rw [hpn] at h3
          by_cases h4 : p ∈ x.2.2.1
          · exact Or.inr h4
          · rw [if_neg h4] at h3; exact Or.inl h3
        · unfold swapS
          rw [if_neg (by rw [h1]; simp), hf]
          dsimp only
          rw [if_neg (by rw [h2]; simp)]

theorem swap_yes {st : St} (hi : Inv st) {id : Int} {l : List Int} {x : HoldT} (h1 : choiceB st.sp.length l = true) (hx : x ∈ st.op) (hxi : x.1 = id) (hf : ∀ p ∈ l, (spAt st.sp p.toNat).1 = 0 ∨ p ∈ x.2.2.1) : (swapS st id l).1 = 0 := by
  unfold swapS
  rw [if_neg (by rw [h1]; simp), ← hxi, find_mem hi hx]
  dsimp only
  rw [if_neg]
  rw [Bool.not_eq_true, List.any_eq_false]
  intro p hp
  have hpr := (choice_iff.mp h1).2.1 p hp
  have hpn : ((p.toNat : Nat) : Int) = p := by omega
  unfold takenB
  rw [mark_at _ _ _ _ (hi.rngP hx), hpn]
  rcases hf p hp with h | h
  · split <;> simp [h]
  · rw [if_pos h]; simp

theorem mem_setPl {op : List HoldT} {id : Int} {l : List Int} {h : HoldT} (hh : h ∈ setPl op id l) : (h ∈ op ∧ h.1 ≠ id) ∨ (h.1 = id ∧ h.2.2.1 = l ∧ ∃ y ∈ op, y.1 = id ∧ h = (y.1, y.2.1, l, y.2.2.2)) := by
  obtain ⟨y, hy, e⟩ := List.mem_map.mp hh
  by_cases hyi : y.1 = id
  · rw [if_pos hyi] at e
    right
    rw [← e]
    exact ⟨hyi, rfl, y, hy, hyi, rfl⟩
  · rw [if_neg hyi] at e
    left
    rw [← e]
    exact ⟨hy, hyi⟩

theorem swap_inv {st : St} (hi : Inv st) (id : Int) (l : List Int) : Inv (swapS st id l).2 := by
  by_cases h0 : (swapS st id l).1 = 0
  · obtain ⟨x, hs⟩ := swap_ok hi h0
    have hch := choice_iff.mp hs.ch
    have hr := hi.rngP hs.mem
    have hat : ∀ q, spAt (markS (markS st.sp x.2.2.1 (0, 0)) l (1, id)) q = if (q : Int) ∈ l then (1, id) else if (q : Int) ∈ x.2.2.1 then (0, 0) else spAt st.sp q := fun q => by
      rw [mark_at _ _ _ _ (fun p hp => by rw [mark_len]; exact hch.2.1 p hp), mark_at _ _ _ _ hr]
    rw [hs.out]
    have hset : ∀ h ∈ setPl st.op id l, ∃ y ∈ st.op, y.1 = h.1 ∧ h.2.2.2 = y.2.2.2 := fun h hh => by
      rcases mem_setPl hh with ⟨h1, _⟩ | ⟨_, _, y, hy, _, e⟩
      · exact ⟨h, h1, rfl, rfl⟩
      · exact ⟨y, hy, by rw [e], by rw [e]⟩
    refine ⟨?_, fun h hh => ?_, fun h hh => ?_, fun h hh p hp => ?_, fun q hq h1 => ?_, fun q hq => ?_, fun h hh => ?_⟩
    · dsimp only
      unfold setPl
      rw [List.pairwise_map]
      refine hi.ids.imp fun {a b} hab => ?_
      have ha : (if a.1 = id then (a.1, a.2.1, l, a.2.2.2) else a).1 = a.1 := by split <;> rfl
      have hb : (if b.1 = id then (b.1, b.2.1, l, b.2.2.2) else b).1 = b.1 := by split <;> rfl
      rw [ha, hb]
      exact hab
    · obtain ⟨y, hy, e, _⟩ := hset h hh
      have := hi.rng y hy
      dsimp only
      omega
    · dsimp only
      rw [mark_len, mark_len]
      rcases mem_setPl hh with ⟨h1, _⟩ | ⟨_, e, _⟩
      · exact hi.chs h h1
      · rw [e]; exact hs.ch
    · dsimp only
      rw [hat]
      rcases mem_setPl hh with ⟨h1, h2⟩ | ⟨h1, e, _⟩
      · have hpr := hi.rngP h1 p hp
        have hpn : ((p.toNat : Nat) : Int) = p := by omega
        have hph := hi.held h h1 p hp
        rw [hpn]
        have hpx : p ∉ x.2.2.1 := fun hpx => h2 (by rw [hi.apart h1 hs.mem hp hpx]; exact hs.hid)
        rw [if_neg (fun hpl => ?_), if_neg hpx]
        · exact hph
        · rcases hs.free p hpl with h3 | h3
          · rw [hph] at h3; simp at h3
          · exact hpx h3
      · rw [e] at hp
        have hpr := hch.2.1 p hp
        have hpn : ((p.toNat : Nat) : Int) = p := by omega
        rw [hpn, if_pos hp, h1]
    · dsimp only at hq h1 ⊢
      rw [mark_len, mark_len] at hq
      rw [hat] at h1
      by_cases hql : (q : Int) ∈ l
      · have : (x.1, x.2.1, l, x.2.2.2) ∈ setPl st.op id l := List.mem_map.mpr ⟨x, hs.mem, by rw [if_pos hs.hid]⟩
        exact ⟨_, this, hql⟩
      · rw [if_neg hql] at h1
        by_cases hqx : (q : Int) ∈ x.2.2.1
        · rw [if_pos hqx] at h1; simp at h1
        · rw [if_neg hqx] at h1
          obtain ⟨h, hh, hm⟩ := hi.back q hq h1
          have hne : h.1 ≠ id := fun e => hqx (by rw [← hi.uniq hh hs.mem (e.trans hs.hid.symm)]; exact hm)
          exact ⟨h, List.mem_map.mpr ⟨h, hh, by rw [if_neg hne]⟩, hm⟩
    · dsimp only at hq ⊢
      rw [mark_len, mark_len] at hq
      rw [hat]
      by_cases hql : (q : Int) ∈ l
      · rw [if_pos hql]; right; left; rfl
      · rw [if_neg hql]
        by_cases hqx : (q : Int) ∈ x.2.2.1
        · rw [if_pos hqx]; left; exact ⟨rfl, rfl⟩
        · rw [if_neg hqx]; exact hi.stt q hq
    · obtain ⟨y, hy, _, e⟩ := hset h hh
      rw [show h.2.2.2 = y.2.2.2 from e]
      exact hi.lim y hy
  · rw [swap_same hi h0]; exact hi

/-! ### Ending several holds -/
theorem end_sp (st : St) (id : Int) (hi : Inv st) (q : Nat) : spAt (endS st id (0, 0)).2.sp q = if (∃ h ∈ st.op, h.1 = id ∧ (q : Int) ∈ h.2.2.1) then (0, 0) else spAt st.sp q := by
  unfold endS
  cases hf : findH st.op id with
  | none =>
    dsimp only
    rw [if_neg]
    rintro ⟨h, hh, e, _⟩
    exact find_none hf h hh e
  | some x =>
    obtain ⟨hx, hxi⟩ := find_some hf
    dsimp only
    rw [mark_at _ _ _ _ (hi.rngP hx)]
    by_cases hq : (q : Int) ∈ x.2.2.1
    · rw [if_pos hq, if_pos ⟨x, hx, hxi, hq⟩]
    · rw [if_neg hq, if_neg]
      rintro ⟨h, hh, e, hm⟩
      exact hq (by rw [← hi.uniq hh hx (e.trans hxi.symm)]; exact hm)

theorem end_op (st : St) (id : Int) (s : SpT) : (endS st id s).2.op = dropH st.op id := by
  unfold endS
  cases hf : findH st.op id with
  | none =>
    dsimp only
    unfold dropH
    rw [List.filter_eq_self.mpr]
    intro h hh
    have := find_none hf h hh
    simpa using this
  | some x => rfl

theorem end_last (st : St) (id : Int) (s : SpT) : (endS st id s).2.last = st.last := by
  unfold endS
  cases findH st.op id <;> rfl

theorem end_len (st : St) (id : Int) (s : SpT) : (endS st id s).2.sp.length = st.sp.length := by
  unfold endS
  cases findH st.op id with
  | none => rfl
  | some x => dsimp only; rw [mark_len]

/-- What is behind the ends of several holds. -/
theorem endAll_is : ∀ (ids : List Int) {st : St}, Inv st → (endAll st ids).op = st.op.filter (fun h => !decide (h.1 ∈ ids)) ∧ (endAll st ids).last = st.last ∧ (endAll st ids).sp.length = st.sp.length ∧
    ∀ q, spAt (endAll st ids).sp q = if (∃ h ∈ st.op, h.1 ∈ ids ∧ (q : Int) ∈ h.2.2.1) then (0, 0) else spAt st.sp q := by
  intro ids
  induction ids with
  | nil =>
    intro st _
    refine ⟨?_, rfl, rfl, fun q => ?_⟩
    · show st.op = _
      rw [List.filter_eq_self.mpr]
      intro h _
      simp
    · show spAt st.sp q = _
      rw [if_neg]
      rintro ⟨h, _, hm, _⟩
      simp at hm
  | cons id ids ih =>
    intro st hi
    obtain ⟨h1, h2, h3, h4⟩ := ih (end_inv hi id (0, 0) (Or.inl rfl))
    have e0 : endAll st (id :: ids) = endAll (endS st id (0, 0)).2 ids := rfl
    rw [e0]
    refine ⟨?_, h2.trans (end_last _ _ _), h3.trans (end_len _ _ _), fun q => ?_⟩
    · rw [h1, end_op]
      unfold dropH
      rw [List.filter_filter]
      refine List.filter_congr fun h _ => ?_
      by_cases e : h.1 = id
      · simp [e]
      · simp [e]
    · rw [h4, end_sp _ _ hi, end_op]
      by_cases ha : ∃ h ∈ st.op, h.1 = id ∧ (q : Int) ∈ h.2.2.1
      · obtain ⟨h, hh, e, hm⟩ := ha
        rw [if_pos (c := ∃ h ∈ st.op, h.1 ∈ id :: ids ∧ (q : Int) ∈ h.2.2.1) ⟨h, hh, by rw [e]; simp, hm⟩]
        split
        · rfl
        · rw [if_pos ⟨h, hh, e, hm⟩]
      · by_cases hb : ∃ h ∈ dropH st.op id, h.1 ∈ ids ∧ (q : Int) ∈ h.2.2.1
        · rw [if_pos hb]
          obtain ⟨h, hh, e, hm⟩ := hb
          rw [if_pos ⟨h, (mem_drop.mp hh).1, by simp [e], hm⟩]
        · rw [if_neg hb, if_neg ha, if_neg]
          rintro ⟨h, hh, e, hm⟩
          rcases List.mem_cons.mp e with e | e
          · exact ha ⟨h, hh, e, hm⟩
          · by_cases e2 : h.1 = id
            · exact ha ⟨h, hh, e2, hm⟩
            · exact hb ⟨h, mem_drop.mpr ⟨hh, e2⟩, e, hm⟩
end Go.Proofs.YtkdbenoleendcaaGreatDoor
