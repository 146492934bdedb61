/- hold, plain: swapping back; two takes; the end of all. -/
import Derived.Test.YtkdbenoleendcaaGreatDoorQHMB13

namespace Go.Proofs.YtkdbenoleendcaaGreatDoor

/-! ### Swapping back -/
theorem setPl_back {op : List HoldT} {id : Int} {l : List Int} {x : HoldT} (hu : ∀ a ∈ op, a.1 = id → a = x) : setPl (setPl op id l) id x.2.2.1 = op := by
  unfold setPl
  rw [List.map_map]
  conv => rhs; rw [← List.map_id op]
  refine List.map_congr_left fun h hh => ?_
  by_cases e : h.1 = id
  · have := hu h hh e
    subst this
    simp [Function.comp, e]
    exact Prod.ext e.symm rfl
  · simp [Function.comp, e]

theorem swap_back {st : St} (hi : Inv st) {id : Int} {l : List Int} {x : HoldT} (hs : Swapped st id l x) : swapS (swapS st id l).2 id x.2.2.1 = (0, st) := by
  have hi' := swap_inv hi id l
  have hch := choice_iff.mp hs.ch
  have hr := hi.rngP hs.mem
  have hat : ∀ q, spAt (swapS st id l).2.sp q = if (q : Int) ∈ l then (1, id) else if (q : Int) ∈ x.2.2.1 then (0, 0) else spAt st.sp q := fun q => by
    rw [hs.out]
    dsimp only
    rw [mark_at _ _ _ _ (fun p hp => by rw [mark_len]; exact hch.2.1 p hp), mark_at _ _ _ _ hr]
  have hlen : (swapS st id l).2.sp.length = st.sp.length := by rw [hs.out]; dsimp only; rw [mark_len, mark_len]
  have hop : (swapS st id l).2.op = setPl st.op id l := by rw [hs.out]
  have hmem : (x.1, x.2.1, l, x.2.2.2) ∈ (swapS st id l).2.op := by rw [hop]; exact List.mem_map.mpr ⟨x, hs.mem, by rw [if_pos hs.hid]⟩
  have h0 : (swapS (swapS st id l).2 id x.2.2.1).1 = 0 := by
    refine swap_yes hi' (by rw [hlen]; exact hi.chs x hs.mem) hmem hs.hid (fun p hp => ?_)
    have hpr := hr p hp
    have hpn : ((p.toNat : Nat) : Int) = p := by omega
    rw [hat, hpn]
    by_cases h : p ∈ l
    · exact Or.inr h
    · rw [if_neg h, if_pos hp]; exact Or.inl rfl
  obtain ⟨y, hy⟩ := swap_ok hi' h0
  have hyx : y = (x.1, x.2.1, l, x.2.2.2) := hi'.uniq hy.mem hmem (hy.hid.trans hs.hid.symm)
  subst hyx
  refine Prod.ext h0 ?_
  rw [hy.out]
  refine St.ext' (sp_ext (by dsimp only; rw [mark_len, mark_len, hlen]) fun q hq => ?_) (by dsimp only; rw [hs.out]) ?_
  · dsimp only
    rw [mark_at _ _ _ _ (fun p hp => by rw [mark_len, hlen]; exact hr p hp), mark_at _ _ _ _ (fun p hp => by rw [hlen]; exact hch.2.1 p hp), hat]
    dsimp only at hq
    rw [mark_len, mark_len, hlen] at hq
    by_cases hqx : (q : Int) ∈ x.2.2.1
    · rw [if_pos hqx]
      have := hi.held x hs.mem q hqx
      have e : ((q : Int)).toNat = q := by omega
      rw [e] at this
      rw [this, hs.hid]
    · rw [if_neg hqx, if_neg hqx]
      by_cases hql : (q : Int) ∈ l
      · rw [if_pos hql]
        rcases hs.free q hql with h | h
        · have e : ((q : Int)).toNat = q := by omega
          rw [e] at h
          rcases hi.stt q hq with h3 | h3 | h3
          · exact (Prod.ext h3.1 h3.2).symm
          · omega
          · omega
        · exact absurd h hqx
      · rw [if_neg hql, if_neg hql]
  · dsimp only
    rw [hop]
    exact setPl_back (fun a ha e => hi.uniq ha hs.mem (e.trans hs.hid.symm))

/-- The list behind a swap: all others as they were. -/
theorem setPl_at {op : List HoldT} {id : Int} {l : List Int} {j : Nat} (hj : j < op.length) : (setPl op id l)[j]'(by unfold setPl; simpa using hj) = if op[j].1 = id then (op[j].1, op[j].2.1, l, op[j].2.2.2) else op[j] := by
  unfold setPl
  simp

theorem setPl_len (op : List HoldT) (id : Int) (l : List Int) : (setPl op id l).length = op.length := by unfold setPl; simp

/-- What was given up is free. -/
theorem swap_gives {st : St} (hi : Inv st) {id : Int} {l : List Int} {x : HoldT} (hs : Swapped st id l x) {p : Int} (hp : p ∈ x.2.2.1) (hl : p ∉ l) : (spAt (swapS st id l).2.sp p.toNat).1 = 0 := by
  have hch := choice_iff.mp hs.ch
  have hr := hi.rngP hs.mem
  have hpr := hr p hp
  have hpn : ((p.toNat : Nat) : Int) = p := by omega
  rw [hs.out]
  dsimp only
  rw [mark_at _ _ _ _ (fun p hp => by rw [mark_len]; exact hch.2.1 p hp), mark_at _ _ _ _ hr, hpn, if_neg hl, if_pos hp]

/-! ### Takes -/
structure Taken (st : St) (named : Bool) (person : NmT) (l : List Int) (til cls : Int) : Prop where
  ok : okTake st named l til cls = true
  few : st.op.length < 1000
  free : ∀ p ∈ l, (spAt st.sp p.toNat).1 = 0
  out : takeS st named person l til cls = ((((st.last + 1 : Nat) : Int), 0), ⟨markS st.sp l (1, ((st.last + 1 : Nat) : Int)), st.last + 1, st.op ++ [(((st.last + 1 : Nat) : Int), person, l, til, cls)]⟩)

theorem any_free {sp : List SpT} {l : List Int} (h : ∀ p ∈ l, (spAt sp p.toNat).1 = 0) : l.any (takenB sp) = false := by
  rw [List.any_eq_false]
  intro p hp
  unfold takenB
  simp [h p hp]

theorem take_yes {st : St} {named : Bool} {person : NmT} {l : List Int} {til cls : Int} (h1 : okTake st named l til cls = true) (h2 : st.op.length < 1000) (h3 : ∀ p ∈ l, (spAt st.sp p.toNat).1 = 0) : Taken st named person l til cls := by
  refine ⟨h1, h2, h3, ?_⟩
  unfold takeS
  rw [if_neg (by rw [h1]; simp), if_neg (by omega), if_neg (by rw [any_free h3]; simp)]

theorem take_grows {st : St} {named : Bool} {person : NmT} {l : List Int} {til cls : Int} (h : (takeS st named person l til cls).2.op.length = st.op.length + 1) : Taken st named person l til cls := by
  by_cases h1 : okTake st named l til cls = false
  · have : takeS st named person l til cls = ((0, 1), st) := by unfold takeS; rw [if_pos h1]
    rw [this] at h
    dsimp only at h
    omega
  · by_cases h2 : 1000 ≤ st.op.length
    · have : takeS st named person l til cls = ((0, 3), st) := by unfold takeS; rw [if_neg h1, if_pos h2]
      rw [this] at h
      dsimp only at h
      omega
    · by_cases h3 : l.any (takenB st.sp) = true
      · have : takeS st named person l til cls = ((0, 16), st) := by unfold takeS; rw [if_neg h1, if_neg h2, if_pos h3]
        rw [this] at h
        dsimp only at h
        omega
      · exact take_yes (by simpa using h1) (by omega) (notTaken (by simpa using h3))

theorem okTake_len {a b : St} (h : a.sp.length = b.sp.length) (named : Bool) (l : List Int) (til cls : Int) : okTake a named l til cls = okTake b named l til cls := by unfold okTake; rw [h]

/-- The second of two takes that are possible alone. -/
theorem take_second {st : St} {n1 n2 : Bool} {p1 p2 : NmT} {l1 l2 : List Int} {t1 c1 t2 c2 : Int} (h1 : Taken st n1 p1 l1 t1 c1) (h2 : Taken st n2 p2 l2 t2 c2) (hf : st.op.length < 900) :
    (takeS (takeS st n1 p1 l1 t1 c1).2 n2 p2 l2 t2 c2).1.2 = if (∃ p ∈ l1, p ∈ l2) then 16 else 0 := by
  have hok1 := h1.ok
  unfold okTake at hok1
  simp only [Bool.and_eq_true] at hok1
  have hch1 := choice_iff.mp hok1.1.1
  have hok2 := h2.ok
  unfold okTake at hok2
  simp only [Bool.and_eq_true] at hok2
  have hch2 := choice_iff.mp hok2.1.1
  have hok : okTake (takeS st n1 p1 l1 t1 c1).2 n2 l2 t2 c2 = true := by
    rw [okTake_len (b := st) (by rw [h1.out]; dsimp only; rw [mark_len])]
    exact h2.ok
  have hat : ∀ q, spAt (takeS st n1 p1 l1 t1 c1).2.sp q = if (q : Int) ∈ l1 then (1, ((st.last + 1 : Nat) : Int)) else spAt st.sp q := fun q => by
    rw [h1.out]
    exact mark_at _ _ _ _ hch1.2.1
  have hlen : (takeS st n1 p1 l1 t1 c1).2.op.length = st.op.length + 1 := by rw [h1.out]; simp
  by_cases hc : ∃ p ∈ l1, p ∈ l2
  · rw [if_pos hc]
    obtain ⟨p, hp1, hp2⟩ := hc
    have hpr := hch1.2.1 p hp1
    have hpn : ((p.toNat : Nat) : Int) = p := by omega
    have hany : l2.any (takenB (takeS st n1 p1 l1 t1 c1).2.sp) = true := by
      rw [List.any_eq_true]
      refine ⟨p, hp2, ?_⟩
      unfold takenB
      rw [hat, hpn, if_pos hp1]
      simp
    unfold takeS
    unfold takeS at hok hany hlen
    rw [if_neg (by rw [hok]; simp), if_neg (by omega), if_pos hany]
  · rw [if_neg hc]
    have hfree : ∀ p ∈ l2, (spAt (takeS st n1 p1 l1 t1 c1).2.sp p.toNat).1 = 0 := fun p hp => by
      have hpr := hch2.2.1 p hp
      have hpn : ((p.toNat : Nat) : Int) = p := by omega
      rw [hat, hpn, if_neg (fun h => hc ⟨p, h, hp⟩)]
      exact h2.free p hp
    rw [(take_yes (person := p2) hok (by omega) hfree).out]

theorem take_both {st : St} {n1 n2 : Bool} {p1 p2 : NmT} {l1 l2 : List Int} {t1 c1 t2 c2 : Int} (h1 : Taken st n1 p1 l1 t1 c1) (h2 : Taken st n2 p2 l2 t2 c2) (hf : st.op.length < 900) (hc : ¬ ∃ p ∈ l1, p ∈ l2) (q : Nat) :
    (spAt (takeS (takeS st n1 p1 l1 t1 c1).2 n2 p2 l2 t2 c2).2.sp q).1 = if (q : Int) ∈ l1 ∨ (q : Int) ∈ l2 then 1 else (spAt st.sp q).1 := by
  have hok1 := h1.ok
  unfold okTake at hok1
  simp only [Bool.and_eq_true] at hok1
  have hch1 := choice_iff.mp hok1.1.1
  have hok2 := h2.ok
  unfold okTake at hok2
  simp only [Bool.and_eq_true] at hok2
  have hch2 := choice_iff.mp hok2.1.1
  have hlen1 : (takeS st n1 p1 l1 t1 c1).2.sp.length = st.sp.length := by rw [h1.out]; dsimp only; rw [mark_len]
  have hok : okTake (takeS st n1 p1 l1 t1 c1).2 n2 l2 t2 c2 = true := by
    rw [okTake_len (b := st) hlen1]
    exact h2.ok
  have hat : ∀ q, spAt (takeS st n1 p1 l1 t1 c1).2.sp q = if (q : Int) ∈ l1 then (1, ((st.last + 1 : Nat) : Int)) else spAt st.sp q := fun q => by
    rw [h1.out]
    exact mark_at _ _ _ _ hch1.2.1
  have hlen : (takeS st n1 p1 l1 t1 c1).2.op.length = st.op.length + 1 := by rw [h1.out]; simp
  have hfree : ∀ p ∈ l2, (spAt (takeS st n1 p1 l1 t1 c1).2.sp p.toNat).1 = 0 := fun p hp => by
    have hpr := hch2.2.1 p hp
    have hpn : ((p.toNat : Nat) : Int) = p := by omega
    rw [hat, hpn, if_neg (fun h => hc ⟨p, h, hp⟩)]
    exact h2.free p hp
  rw [(take_yes (person := p2) hok (by omega) hfree).out]
  dsimp only
  rw [mark_at _ _ _ _ (fun p hp => by rw [hlen1]; exact hch2.2.1 p hp), hat]
  by_cases hq2 : (q : Int) ∈ l2
  · rw [if_pos hq2, if_pos (Or.inr hq2)]
  · rw [if_neg hq2]
    by_cases hq1 : (q : Int) ∈ l1
    · rw [if_pos hq1, if_pos (Or.inl hq1)]
    · rw [if_neg hq1, if_neg (by rintro (h | h) <;> contradiction)]

/-! ### All is released, and freed -/
theorem release_next {st : St} (hi : Inv st) {i : Nat} (h : i < st.op.length) : (endS (endAll st ((st.op.map (·.1)).take i)) (st.op[i]).1 (0, 0)).1.2 = 0 := by
  have hmem : st.op[i] ∈ (endAll st ((st.op.map (·.1)).take i)).op := by
    rw [(endAll_is _ hi).1, List.mem_filter]
    refine ⟨List.getElem_mem h, ?_⟩
    simp only [Bool.not_eq_true', decide_eq_false_iff_not]
    intro hm
    obtain ⟨j, hj, e⟩ := List.getElem_of_mem hm
    rw [List.getElem_take, List.getElem_map] at e
    rw [List.length_take] at hj
    have hlt : j < i := by omega
    have := List.pairwise_iff_getElem.mp hi.ids j i (by omega) h hlt
    omega
  have hf := find_mem (endAll_inv _ hi) hmem
  unfold endS
  rw [hf]

theorem released {st : St} (hi : Inv st) : (endAll st (st.op.map (·.1))).op = [] ∧ ∀ q, q < st.sp.length → (spAt (endAll st (st.op.map (·.1))).sp q).1 ≠ 1 := by
  have h1 := endAll_is (st.op.map (·.1)) hi
  have h0 : (endAll st (st.op.map (·.1))).op = [] := by
    rw [h1.1, List.filter_eq_nil_iff]
    intro h hh
    simp only [Bool.not_eq_true', decide_eq_false_iff_not, Decidable.not_not]
    exact List.mem_map.mpr ⟨h, hh, rfl⟩
  refine ⟨h0, fun q hq h2 => ?_⟩
  obtain ⟨h, hh, _⟩ := (endAll_inv _ hi).back q (by rw [h1.2.2.1]; exact hq) h2
  rw [h0] at hh
  simp at hh

/-- The first k places, each freed. -/
def freeAll (st : St) (k : Nat) : St := (List.range k).foldl (fun (st : St) (p : Nat) => (freeS st (p : Int)).2) st

theorem freeAll_next (st : St) (k : Nat) : freeAll st (k + 1) = (freeS (freeAll st k) (k : Int)).2 := by
  unfold freeAll
  rw [List.range_succ, List.foldl_append]
  rfl

theorem freeAll_is (st : St) : ∀ k, k ≤ st.sp.length → (freeAll st k).sp.length = st.sp.length ∧ (freeAll st k).op = st.op ∧ ∀ q, spAt (freeAll st k).sp q = if q < k ∧ (spAt st.sp q).1 = 2 then (0, 0) else spAt st.sp q := by
  intro k
  induction k with
  | zero =>
    intro _
    refine ⟨rfl, rfl, fun q => ?_⟩
    rw [if_neg (by omega)]
    rfl
  | succ k ih =>
    intro hk
    obtain ⟨h1, h2, h3⟩ := ih (by omega)
    have hk3 := h3 k
    rw [if_neg (by omega)] at hk3
    have hin : inR (freeAll st k).sp.length (k : Int) = true := by rw [inR_iff, h1]; omega
    have e : ((k : Int)).toNat = k := by omega
    rw [freeAll_next]
    unfold freeS
    rw [if_neg (by rw [hin]; simp), e]
    by_cases hs : (spAt st.sp k).1 = 2
    · rw [if_neg (by rw [hk3]; simp [hs])]
      dsimp only
      refine ⟨by rw [List.length_set, h1], h2, fun q => ?_⟩
      rw [spAt_set _ _ _ _ (by omega), h3]
      by_cases hkq : k = q
      · subst hkq
        rw [if_pos rfl, if_pos ⟨by omega, hs⟩]
      · rw [if_neg hkq]
        by_cases hq : q < k ∧ (spAt st.sp q).1 = 2
        · rw [if_pos hq, if_pos ⟨by omega, hq.2⟩]
        · rw [if_neg hq, if_neg (fun h => hq ⟨by omega, h.2⟩)]
    · rw [if_pos (by rw [hk3]; exact hs)]
      refine ⟨h1, h2, fun q => ?_⟩
      rw [h3]
      by_cases hq : q < k ∧ (spAt st.sp q).1 = 2
      · rw [if_pos hq, if_pos ⟨by omega, hq.2⟩]
      · rw [if_neg hq, if_neg (fun h => ?_)]
        by_cases hkq : k = q
        · subst hkq; exact hs h.2
        · exact hq ⟨by omega, h.2⟩

theorem free_res (st : St) {k : Nat} (hk : k < st.sp.length) : decide ((freeS (freeAll st k) (k : Int)).1 = 0) = decide ((spAt st.sp k).1 = 2) := by
  obtain ⟨h1, _, h3⟩ := freeAll_is st k (by omega)
  have hk3 := h3 k
  rw [if_neg (by omega)] at hk3
  have hin : inR (freeAll st k).sp.length (k : Int) = true := by rw [inR_iff, h1]; omega
  have e : ((k : Int)).toNat = k := by omega
  unfold freeS
  rw [if_neg (by rw [hin]; simp), e, hk3]
  by_cases hs : (spAt st.sp k).1 = 2
  · rw [if_neg (by simp [hs])]; simp [hs]
  · rw [if_pos hs]; simp [hs]
end Go.Proofs.YtkdbenoleendcaaGreatDoor
