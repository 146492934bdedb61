/- refund, plain: the part of an amount, what is left, and what the statements ask of them. -/
import Derived.Test.YtgpmhaeiccljaaaDoorMX
namespace Go.Proofs.YtgpmhaeiccljaaaDoor

abbrev Name := List UInt8
abbrev MeanT := Name × Int

/-- The name and the amount of a means, behind names that simp does not open. -/
def nm (l : List MeanT) (i : Nat) : Name := (l.getD i ([], 0)).1
def am (l : List MeanT) (i : Nat) : Int := (l.getD i ([], 0)).2

theorem nm_eq (l : List MeanT) (i : Nat) (h : i < l.length) : nm l i = l[i].1 := by
  unfold nm; rw [List.getD_eq_getElem?_getD, List.getElem?_eq_getElem h]; rfl
theorem am_eq (l : List MeanT) (i : Nat) (h : i < l.length) : am l i = l[i].2 := by
  unfold am; rw [List.getD_eq_getElem?_getD, List.getElem?_eq_getElem h]; rfl

theorem mean_ext {A B : List MeanT} (hl : A.length = B.length) (h : ∀ i, i < A.length → nm A i = nm B i ∧ am A i = am B i) : A = B := by
  apply List.ext_getElem hl
  intro i h1 h2
  have := h i h1
  rw [nm_eq _ _ h1, nm_eq _ _ h2, am_eq _ _ h1, am_eq _ _ h2] at this
  exact Prod.ext this.1 this.2

/-- The amounts. -/
def wts (l : List MeanT) : List Int := l.map (·.2)

theorem wts_len (l : List MeanT) : (wts l).length = l.length := by simp [wts]
theorem wts_at (l : List MeanT) (i : Nat) (h : i < l.length) : ix (wts l) i = am l i := by
  unfold ix wts am
  simp [List.getD_eq_getElem?_getD, List.getElem?_map, List.getElem?_eq_getElem h]

/-- The sum of the amounts. -/
def totS : List MeanT → Int
  | [] => 0
  | m :: l => m.2 + totS l

theorem tot_append (A B : List MeanT) : totS (A ++ B) = totS A + totS B := by
  induction A with
  | nil => simp [totS]
  | cons x A ih => rw [List.cons_append, totS, totS, ih]; omega

theorem tot_take (l : List MeanT) (i : Nat) (h : i < l.length) : totS (l.take (i + 1)) = totS (l.take i) + am l i := by
  rw [List.take_succ_eq_append_getElem h, tot_append, am_eq _ _ h]
  simp [totS]

theorem tot_all (l : List MeanT) : allW (wts l) = totS l := by
  unfold allW
  rw [wts_len]
  have : ∀ n, n ≤ l.length → sumN (ix (wts l)) n = totS (l.take n) := by
    intro n
    induction n with
    | zero => intro _; rfl
    | succ n ih => intro hn; rw [sumN, ih (by omega), wts_at l n (by omega), tot_take l n (by omega)]
  rw [this l.length (Nat.le_refl _), List.take_length]

/-- The amount of the first means with a name; 0 if there is none. -/
def ofS : List MeanT → Name → Int
  | [], _ => 0
  | m :: l, n => if m.1 = n then m.2 else ofS l n

/-- Different names. -/
def Diff (l : List MeanT) : Prop := (l.map (·.1)).Nodup

theorem Diff.names {l : List MeanT} (h : Diff l) : (l.map (·.1)).Nodup := h

theorem diff_inj {l : List MeanT} (h : Diff l) {i j : Nat} (hi : i < l.length) (hj : j < l.length) (e : nm l i = nm l j) : i = j := by
  unfold Diff at h
  rw [nm_eq _ _ hi, nm_eq _ _ hj] at e
  have key : ∀ (a b : Nat) (ha : a < l.length) (hb : b < l.length), a < b → l[a].1 ≠ l[b].1 := fun a b ha hb hab => by
    have := List.pairwise_iff_getElem.mp h a b (by simpa using ha) (by simpa using hb) hab
    simpa using this
  rcases Nat.lt_trichotomy i j with h1 | h1 | h1
  · exact absurd e (key i j hi hj h1)
  · exact h1
  · exact absurd e.symm (key j i hj hi h1)

theorem of_at {l : List MeanT} (h : Diff l) : ∀ i, i < l.length → ofS l (nm l i) = am l i := by
  induction l with
  | nil => intro i hi; simp at hi
  | cons m l ih =>
    have hd : Diff l := by unfold Diff at h ⊢; rw [List.map_cons, List.nodup_cons] at h; exact h.2
    intro i hi
    cases i with
    | zero => rw [nm_eq _ _ hi, am_eq _ _ hi]; simp [ofS]
    | succ i =>
      have hi' : i < l.length := by simpa using hi
      have e1 : nm (m :: l) (i + 1) = nm l i := by rw [nm_eq _ _ hi, nm_eq _ _ hi']; rfl
      have e2 : am (m :: l) (i + 1) = am l i := by rw [am_eq _ _ hi, am_eq _ _ hi']; rfl
      rw [e1, e2, ofS, if_neg, ih hd i hi']
      intro he
      have e3 : nm (m :: l) 0 = m.1 := by rw [nm_eq _ _ (by simp)]; rfl
      have := diff_inj h (i := 0) (j := i + 1) (by simp) hi (by rw [e3, e1, he])
      omega

theorem of_none {l : List MeanT} {n : Name} (h : ∀ i, i < l.length → nm l i ≠ n) : ofS l n = 0 := by
  induction l with
  | nil => rfl
  | cons m l ih =>
    have h0 := h 0 (by simp)
    have e3 : nm (m :: l) 0 = m.1 := by rw [nm_eq _ _ (by simp)]; rfl
    rw [e3] at h0
    rw [ofS, if_neg h0]
    refine ih (fun i hi => ?_)
    have := h (i + 1) (by simpa using hi)
    rwa [nm_eq _ _ (by simpa using hi), List.getElem_cons_succ, ← nm_eq _ _ hi] at this

/-- What is left to be paid back: different names, amounts from 1, an amount in all. -/
structure Good (l : List MeanT) : Prop where
  diff : Diff l
  pos : ∀ i, i < l.length → 1 ≤ am l i
  tot : totS l ≤ 1000000000
  len : l.length ≤ 100

theorem tot_nonneg {l : List MeanT} (h : ∀ i, i < l.length → 0 ≤ am l i) : 0 ≤ totS l := by
  rw [← tot_all]
  unfold allW
  have := sumN_le (fun _ => 0) (ix (wts l)) (wts l).length (fun i hi => by rw [wts_len] at hi; rw [wts_at l i hi]; exact h i hi)
  rw [sumN_const] at this
  omega

theorem am_le_tot {l : List MeanT} (h : ∀ i, i < l.length → 0 ≤ am l i) (i : Nat) (hi : i < l.length) : am l i ≤ totS l := by
  have := ix_le_all (wts l) (fun j hj => by rw [wts_len] at hj; rw [wts_at l j hj]; exact h j hj) i (by rw [wts_len]; exact hi)
  rwa [wts_at l i hi, tot_all] at this

theorem Good.le {l : List MeanT} (h : Good l) (i : Nat) (hi : i < l.length) : 1 ≤ am l i ∧ am l i ≤ 1000000000 := by
  have := am_le_tot (fun j hj => by have := h.pos j hj; omega) i hi
  have := h.tot
  have := h.pos i hi
  omega

/-- The parts that are more than nothing, with the names. -/
def somePos : List Name → List Int → List MeanT
  | n :: ns, p :: ps => if 0 < p then (n, p) :: somePos ns ps else somePos ns ps
  | _, _ => []

def partList (l : List MeanT) (a : Int) : List MeanT := somePos (l.map (·.1)) (splitS a (wts l))

/-- What part returns: a list and an error. -/
def mpartS (l : List MeanT) (a : Int) : List MeanT × Int :=
  if a < 0 then ([], 1) else if totS l < a then ([], 19) else if l = [] then ([], 0) else (partList l a, 0)

/-- What is left behind a list that is taken. -/
def takeS (l t : List MeanT) : List MeanT := somePos (l.map (·.1)) (l.map fun m => m.2 - ofS t m.1)

theorem some_tot : ∀ (ns : List Name) (ps : List Int), ns.length = ps.length → (∀ p ∈ ps, 0 ≤ p) → totS (somePos ns ps) = ps.foldr (· + ·) 0
  | [], [], _, _ => rfl
  | [], _ :: _, h, _ => by simp at h
  | _ :: _, [], h, _ => by simp at h
  | n :: ns, p :: ps, h, hp => by
    have ih := some_tot ns ps (by simpa using h) (fun q hq => hp q (by simp [hq]))
    have h0 := hp p (by simp)
    rw [somePos, List.foldr_cons, ← ih]
    split
    · rfl
    · omega

theorem some_of : ∀ (ns : List Name) (ps : List Int), ns.length = ps.length → ns.Nodup → (∀ p ∈ ps, 0 ≤ p) → ∀ (i : Nat) (h1 : i < ns.length) (h2 : i < ps.length), ofS (somePos ns ps) ns[i] = ps[i]
  | [], _, _, _, _, _, h, _ => by simp at h
  | _ :: _, [], h, _, _, _, _, _ => by simp at h
  | n :: ns, p :: ps, h, hd, hp, i, h1, h2 => by
    have h' : ns.length = ps.length := by simpa using h
    have hd' := List.nodup_cons.mp hd
    have hsub : ∀ (x : Name), x ∉ ns → ofS (somePos ns ps) x = 0 := by
      have key : ∀ (ns : List Name) (ps : List Int) (x : Name), x ∉ ns → ofS (somePos ns ps) x = 0 := by
        intro ns
        induction ns with
        | nil => intro ps x _; cases ps <;> rfl
        | cons n ns ih =>
          intro ps x hx
          cases ps with
          | nil => rfl
          | cons p ps =>
            rw [somePos]
            split
            · rw [ofS, if_neg (fun e => hx (by rw [show n = x from e]; exact List.mem_cons_self)), ih ps x (fun hm => hx (List.mem_cons_of_mem _ hm))]
            · exact ih ps x (fun hm => hx (List.mem_cons_of_mem _ hm))
      exact fun x hx => key ns ps x hx
    cases i with
    | zero =>
      rw [somePos]
      have h0 := hp p (by simp)
      split
      · simp [ofS]
      · have := hsub n hd'.1
        simp only [List.getElem_cons_zero]
        rw [this]; omega
    | succ i =>
      have ih := some_of ns ps h' hd'.2 (fun q hq => hp q (by simp [hq])) i (by simpa using h1) (by simpa using h2)
      simp only [List.getElem_cons_succ]
      rw [somePos]
      split
      · rw [ofS, if_neg, ih]
        intro e
        exact hd'.1 (by rw [show n = ns[i]'(by simpa using h1) from e]; exact List.getElem_mem _)
      · exact ih

theorem some_sub : ∀ (ns : List Name) (ps : List Int), ((somePos ns ps).map (·.1)).Sublist ns
  | [], ps => by cases ps <;> exact List.Sublist.refl _
  | _ :: _, [] => List.nil_sublist _
  | n :: ns, p :: ps => by
    rw [somePos]
    split
    · rw [List.map_cons]; exact (some_sub ns ps).cons_cons n
    · exact (some_sub ns ps).cons n

theorem some_pos : ∀ (ns : List Name) (ps : List Int), ∀ m ∈ somePos ns ps, 1 ≤ m.2
  | [], ps => by cases ps <;> simp [somePos]
  | _ :: _, [] => by simp [somePos]
  | n :: ns, p :: ps => by
    intro m hm
    rw [somePos] at hm
    split at hm
    · rcases List.mem_cons.mp hm with rfl | h
      · dsimp only; omega
      · exact some_pos ns ps m h
    · exact some_pos ns ps m hm
end Go.Proofs.YtgpmhaeiccljaaaDoor
