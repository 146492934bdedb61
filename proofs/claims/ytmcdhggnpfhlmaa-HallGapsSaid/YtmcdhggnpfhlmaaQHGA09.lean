/- hall: plain: with a gap at a seat without a mark there are no faults. -/
import Derived.Test.YtmcdhggnpfhlmaaQHGA08

namespace Go.Proofs.Ytmcdhggnpfhlmaa
open Go.RowKit Go.IntWalk
set_option linter.unusedSimpArgs false
set_option linter.unusedVariables false

/-! ### Single things -/
theorem marks_gap {r : RowR} {s : Int} (h : marksS r = 0) (lo : r.fr ≤ s) (hi : s ≤ r.to) (hno : ∀ m ∈ r.marks, m.seat ≠ s) : marksS (gapR s r) = 0 := by
  have e : (gapR s r).marks = r.marks ++ [⟨1, s, 0⟩] := rfl
  have e1 : (gapR s r).fr = r.fr := rfl
  have e2 : (gapR s r).to = r.to := rfl
  unfold marksS at h ⊢
  rw [e, e1, e2]
  split at h
  · cases h
  split at h
  · cases h
  rename_i h1 h2
  split at h
  · cases h
  rename_i h3
  split at h
  · cases h
  rename_i h4
  have k1 : ¬ (r.marks ++ [(⟨1, s, 0⟩ : MarkR)]).any (fun m => decide (m.kind < 1) || decide (4 < m.kind)) = true := by
    rw [List.any_append]
    simpa using h1
  have k2 : ¬ (r.marks ++ [(⟨1, s, 0⟩ : MarkR)]).any (fun m => decide (m.seat < r.fr) || decide (r.to < m.seat)) = true := by
    rw [List.any_append, Bool.or_eq_true, not_or]
    refine ⟨h2, ?_⟩
    simp only [List.any_cons, List.any_nil, Bool.or_false, Bool.or_eq_true, decide_eq_true_eq, not_or]
    omega
  have k3 : ¬ (!decide (((r.marks ++ [(⟨1, s, 0⟩ : MarkR)]).map (·.seat)).Nodup)) = true := by
    simp only [Bool.not_eq_true', decide_eq_false_iff_not, Classical.not_not] at h3 ⊢
    rw [List.map_append, List.nodup_append]
    refine ⟨h3, by simp, ?_⟩
    intro a ha b hb
    obtain ⟨m, hm, rfl⟩ := List.mem_map.1 ha
    simp only [List.map_cons, List.map_nil, List.mem_singleton] at hb
    rw [hb]
    exact hno m hm
  have k4 : ¬ (r.marks ++ [(⟨1, s, 0⟩ : MarkR)]).any (fun m => decide (m.kind = 4) && !wheelB (r.marks ++ [(⟨1, s, 0⟩ : MarkR)]) m.wth) = true := by
    rw [List.any_append, Bool.or_eq_true, not_or]
    refine ⟨fun hh => h4 ?_, by simp⟩
    rw [List.any_eq_true] at hh ⊢
    obtain ⟨m, hm, he⟩ := hh
    refine ⟨m, hm, ?_⟩
    rw [Bool.and_eq_true] at he ⊢
    refine ⟨he.1, ?_⟩
    have := he.2
    unfold wheelB at this ⊢
    rw [List.any_append, Bool.not_eq_true', Bool.or_eq_false_iff] at this
    rw [this.1]
    rfl
  rw [if_neg k1, if_neg k2, if_neg k3, if_neg k4]
theorem row_gap1 {rows : List RowR} {k q : Nat} {r : RowR} {s : Int} (h : rowFault rows q r = []) : rowFault (modS k (gapR s) rows) q r = [] := by
  have e1 : (modS k (gapR s) rows).findIdx (fun x => decide (x.name = r.name)) = rows.findIdx fun x => decide (x.name = r.name) := find_mod (f := gapR s) (nm := fun x : RowR => x.name) (fun _ => rfl) rows r.name
  unfold rowFault at h ⊢
  dsimp only at h ⊢
  rw [e1]
  split at h
  · cases h
  rename_i c1
  rw [if_neg c1]
  exact h
theorem row_gap2 {rows : List RowR} {k q : Nat} {r : RowR} {s : Int} (h : rowFault rows q r = []) (lo : r.fr ≤ s) (hi : s ≤ r.to) (hno : ∀ m ∈ r.marks, m.seat ≠ s) (hl : r.marks.length < 60) : rowFault (modS k (gapR s) rows) q (gapR s r) = [] := by
  have e1 : (modS k (gapR s) rows).findIdx (fun x => decide (x.name = (gapR s r).name)) = rows.findIdx fun x => decide (x.name = r.name) := find_mod (f := gapR s) (nm := fun x : RowR => x.name) (fun _ => rfl) rows r.name
  unfold rowFault at h ⊢
  dsimp only at h ⊢
  rw [e1]
  split at h
  · cases h
  rename_i c1
  split at h
  · cases h
  rename_i c2
  split at h
  · cases h
  rename_i c3
  split at h
  · cases h
  rename_i c4
  split at h
  · rename_i c5
    have c4' : ¬ (60 ≤ (gapR s r).to - (gapR s r).fr ∨ 60 < (gapR s r).marks.length) := by
      have : (gapR s r).marks.length = r.marks.length + 1 := by
        show (r.marks ++ [_]).length = _
        simp
      rw [this]
      show ¬ (60 ≤ r.to - r.fr ∨ _)
      omega
    rw [if_neg c1, if_neg (by exact c2), if_neg (by exact c3), if_neg c4', if_pos (marks_gap c5 lo hi hno)]
  · cases h
theorem block_gap {bs : List BlkR} {i j k : Nat} {s : Int} {b b2 : BlkR} (h : blockFault bs j b = []) (h1 : b2.name = b.name) (h2 : b2.rows.length = b.rows.length) : blockFault (modS i (gapB k s) bs) j b2 = [] := by
  have e1 : (modS i (gapB k s) bs).findIdx (fun x => decide (x.name = b2.name)) = bs.findIdx fun x => decide (x.name = b.name) := by
    rw [h1]
    exact find_mod (f := gapB k s) (nm := fun x : BlkR => x.name) (fun _ => rfl) bs b.name
  unfold blockFault at h ⊢
  dsimp only at h ⊢
  rw [e1, h2]
  split at h
  · cases h
  rename_i c1
  split at h
  · cases h
  rename_i c2
  rw [if_neg c1, if_neg c2]
theorem area_gap {l : LevR} {i k j : Nat} {s : Int} {a : AreaR} (h : areaFault l j a = []) : areaFault (gapL i k s l) j a = [] := by
  have e1 : (gapL i k s l).blocks.findIdx (fun x => decide (x.name = a.name)) = l.blocks.findIdx fun x => decide (x.name = a.name) := find_mod (f := gapB k s) (nm := fun x : BlkR => x.name) (fun _ => rfl) l.blocks a.name
  have e2 : (gapL i k s l).blocks.length = l.blocks.length := modS_len ..
  have e3 : (gapL i k s l).areas = l.areas := rfl
  unfold areaFault at h ⊢
  dsimp only at h ⊢
  rw [e1, e2, e3]
  split at h
  · cases h
  rename_i c1
  split at h
  · cases h
  rename_i c2
  rw [if_neg c1, if_neg c2]
  exact h
theorem level_gap {ls : List LevR} {n i k m : Nat} {s : Int} {l l2 : LevR} (h : levelFault ls m l = []) (hl : l2 = l ∨ l2 = gapL i k s l) : levelFault (modS n (gapL i k s) ls) m l2 = [] := by
  have hn : l2.name = l.name ∧ l2.height = l.height ∧ l2.blocks.length = l.blocks.length ∧ l2.areas = l.areas ∧ l2.aisles = l.aisles ∧ l2.pillars = l.pillars ∧ l2.doors = l.doors := by
    rcases hl with rfl | rfl
    · exact ⟨rfl, rfl, rfl, rfl, rfl, rfl, rfl⟩
    · exact ⟨rfl, rfl, modS_len .., rfl, rfl, rfl, rfl⟩
  obtain ⟨n1, n2, n3, n4, n5, n6, n7⟩ := hn
  have e1 : (modS n (gapL i k s) ls).findIdx (fun x => decide (x.name = l2.name)) = ls.findIdx fun x => decide (x.name = l.name) := by
    rw [n1]
    exact find_mod (f := gapL i k s) (nm := fun x : LevR => x.name) (fun _ => rfl) ls l.name
  unfold levelFault at h ⊢
  dsimp only at h ⊢
  rw [e1, n2, n3, n4, n5, n6, n7]
  split at h
  · cases h
  rename_i c1
  split at h
  · cases h
  rename_i c2
  rw [if_neg c1, if_neg c2]
  split at h
  · cases h
  rename_i c3
  rw [if_neg c3]

/-- What is asked of the row that gets the gap. -/
def GapOk (s : Int) (r : RowR) : Prop := r.fr ≤ s ∧ s ≤ r.to ∧ (∀ m ∈ r.marks, m.seat ≠ s) ∧ r.marks.length < 60
theorem single_gap {h : HallR} {n i k : Nat} {s : Int} (hs : singleS h = []) (hg : ∀ (l : LevR) (b : BlkR) (r : RowR), (l, n) ∈ h.levels.zipIdx → (b, i) ∈ l.blocks.zipIdx → (r, k) ∈ b.rows.zipIdx → GapOk s r) : singleS (gapH n i k s h) = [] := by
  unfold singleS at hs ⊢
  show (modS n (gapL i k s) h.levels).zipIdx.flatMap _ = []
  rw [modS_zip, List.flatMap_map, List.flatMap_eq_nil_iff]
  rintro ⟨l, m⟩ hlm
  have h1 := flat_nil hs hlm
  dsimp only at h1 ⊢
  obtain ⟨h2, ha⟩ := List.append_eq_nil_iff.1 h1
  obtain ⟨hl, hb⟩ := List.append_eq_nil_iff.1 h2
  rw [List.append_eq_nil_iff, List.append_eq_nil_iff]
  by_cases e : m = n
  · subst e
    rw [if_pos rfl]
    refine ⟨⟨level_gap hl (Or.inr rfl), ?_⟩, ?_⟩
    · show (modS i (gapB k s) l.blocks).zipIdx.flatMap _ = []
      rw [modS_zip, List.flatMap_map, List.flatMap_eq_nil_iff]
      rintro ⟨b, j⟩ hbj
      have h3 := flat_nil hb hbj
      dsimp only at h3 ⊢
      obtain ⟨h4, h5⟩ := List.append_eq_nil_iff.1 h3
      rw [List.append_eq_nil_iff]
      by_cases e2 : j = i
      · subst e2
        rw [if_pos rfl]
        refine ⟨block_gap h4 rfl (modS_len ..), ?_⟩
        show (modS k (gapR s) b.rows).zipIdx.flatMap _ = []
        rw [modS_zip, List.flatMap_map, List.flatMap_eq_nil_iff]
        rintro ⟨r, q⟩ hrq
        have h6 := flat_nil h5 hrq
        dsimp only at h6 ⊢
        by_cases e3 : q = k
        · subst e3
          rw [if_pos rfl]
          obtain ⟨g1, g2, g3, g4⟩ := hg l b r hlm hbj hrq
          exact row_gap2 h6 g1 g2 g3 g4
        · rw [if_neg e3]
          exact row_gap1 h6
      · rw [if_neg e2]
        exact ⟨block_gap h4 rfl rfl, h5⟩
    · show l.areas.zipIdx.flatMap _ = []
      rw [List.flatMap_eq_nil_iff]
      rintro ⟨a, j⟩ haj
      exact area_gap (flat_nil ha haj)
  · rw [if_neg e]
    exact ⟨⟨level_gap hl (Or.inl rfl), hb⟩, ha⟩

/-! ### Several things -/
structure SevOk (re : List Bool) (l : LevR) : Prop where
  ap : (allRows l).Pairwise fun a b => shareB b a = false
  cl : ∀ r ∈ allRows l, blockedB l r = false ∧ besideB re l r = true
  am : l.areas.Pairwise fun a b => meetB b.box a.box = false
  ar : ∀ a ∈ l.areas, (∀ r ∈ allRows l, inAreaB a r = false) ∧ openB re l (fun b => meetB a.box b) = true
theorem pair_take {α : Type} {R : α → α → Prop} {xs : List α} : xs.Pairwise R ↔ ∀ (j : Nat) (hj : j < xs.length), ∀ x ∈ xs.take j, R x xs[j] := by
  rw [List.pairwise_iff_getElem]
  constructor
  · intro h j hj x hx
    obtain ⟨i, hi, rfl⟩ := List.mem_iff_getElem.1 hx
    rw [List.length_take] at hi
    rw [List.getElem_take]
    exact h i j (by omega) hj (by omega)
  · intro h i j hi hj hij
    exact h j hj xs[i] (List.mem_iff_getElem.2 ⟨i, by rw [List.length_take]; omega, by rw [List.getElem_take]⟩)
theorem sev_ok {re : List Bool} {l : LevR} : severalR re l = [] ↔ SevOk re l := by
  have hR : ∀ (x : RowR) (xs : List RowR), rowFaults re l xs x = [] ↔ (∀ y ∈ xs, shareB x y = false) ∧ blockedB l x = false ∧ besideB re l x = true := fun x xs => by
    unfold rowFaults
    rw [List.append_eq_nil_iff, List.append_eq_nil_iff, List.map_eq_nil_iff, List.filter_eq_nil_iff]
    constructor
    · rintro ⟨⟨a, b⟩, c⟩
      refine ⟨fun y hy => by simpa using a y hy, ?_, ?_⟩
      · cases e : blockedB l x with
        | false => rfl
        | true => rw [e] at b; cases b
      · cases e : besideB re l x with
        | true => rfl
        | false => rw [e] at c; cases c
    · rintro ⟨a, b, c⟩
      rw [b, c]
      exact ⟨⟨fun y hy => by simpa using a y hy, rfl⟩, rfl⟩
  have hA : ∀ (x : AreaR) (xs : List AreaR), areaFaults re l xs x = [] ↔ (∀ r ∈ allRows l, inAreaB x r = false) ∧ (∀ y ∈ xs, meetB x.box y.box = false) ∧ openB re l (fun b => meetB x.box b) = true := fun x xs => by
    unfold areaFaults
    rw [List.append_eq_nil_iff, List.append_eq_nil_iff, List.map_eq_nil_iff, List.map_eq_nil_iff, List.filter_eq_nil_iff, List.filter_eq_nil_iff]
    constructor
    · rintro ⟨⟨a, b⟩, c⟩
      refine ⟨fun y hy => by simpa using a y hy, fun y hy => by simpa using b y hy, ?_⟩
      cases e : openB re l (fun b => meetB x.box b) with
      | true => rfl
      | false => rw [e] at c; cases c
    · rintro ⟨a, b, c⟩
      rw [c]
      exact ⟨⟨fun y hy => by simpa using a y hy, fun y hy => by simpa using b y hy⟩, rfl⟩
  unfold severalR
  rw [List.append_eq_nil_iff, List.flatMap_eq_nil_iff, List.flatMap_eq_nil_iff]
  constructor
  · rintro ⟨h1, h2⟩
    have k1 := fun (j : Nat) (hj : j < (allRows l).length) => (hR _ _).1 (h1 _ (zip_get hj))
    have k2 := fun (j : Nat) (hj : j < l.areas.length) => (hA _ _).1 (h2 _ (zip_get hj))
    refine ⟨pair_take.2 fun j hj x hx => (k1 j hj).1 x hx, fun r hr => ?_, pair_take.2 fun j hj x hx => (k2 j hj).2.1 x hx, fun a ha => ?_⟩
    · obtain ⟨j, hj, rfl⟩ := List.mem_iff_getElem.1 hr
      exact (k1 j hj).2
    · obtain ⟨j, hj, rfl⟩ := List.mem_iff_getElem.1 ha
      exact ⟨(k2 j hj).1, (k2 j hj).2.2⟩
  · rintro ⟨a1, a2, a3, a4⟩
    refine ⟨fun x hx => ?_, fun x hx => ?_⟩
    · obtain ⟨j, hj, rfl⟩ := List.mem_iff_getElem.1 hx
      simp only [List.length_zipIdx] at hj
      simp only [List.getElem_zipIdx, Nat.zero_add]
      exact (hR _ _).2 ⟨pair_take.1 a1 j hj, a2 _ (List.getElem_mem hj)⟩
    · obtain ⟨j, hj, rfl⟩ := List.mem_iff_getElem.1 hx
      simp only [List.length_zipIdx] at hj
      simp only [List.getElem_zipIdx, Nat.zero_add]
      exact (hA _ _).2 ⟨(a4 _ (List.getElem_mem hj)).1, pair_take.1 a3 j hj, (a4 _ (List.getElem_mem hj)).2⟩

/-- One list goes with another one, element by element. -/
inductive Rel2 {α β : Type} (R : α → β → Prop) : List α → List β → Prop
  | nil : Rel2 R [] []
  | cons {a : α} {b : β} {xs : List α} {us : List β} (h : R a b) (t : Rel2 R xs us) : Rel2 R (a :: xs) (b :: us)
theorem Rel2.append {α β : Type} {R : α → β → Prop} {xs ys : List α} {us vs : List β} (h : Rel2 R xs us) (k : Rel2 R ys vs) : Rel2 R (xs ++ ys) (us ++ vs) := by
  induction h with
  | nil => exact k
  | cons h _ ih => exact .cons h ih
theorem Rel2.mem {α β : Type} {R : α → β → Prop} {xs : List α} {us : List β} (h : Rel2 R xs us) : ∀ u ∈ us, ∃ x ∈ xs, R x u := by
  induction h with
  | nil => intro u hu; cases hu
  | cons h _ ih =>
    intro u hu
    rcases List.mem_cons.1 hu with rfl | hu
    · exact ⟨_, List.mem_cons_self .., h⟩
    · obtain ⟨x, hx, hr⟩ := ih u hu
      exact ⟨x, List.mem_cons_of_mem _ hx, hr⟩
theorem Rel2.pair {α β : Type} {R : α → β → Prop} {S : α → α → Prop} {T : β → β → Prop} (hST : ∀ a b u v, R a u → R b v → S a b → T u v) {xs : List α} {us : List β} (h : Rel2 R xs us) (hp : xs.Pairwise S) : us.Pairwise T := by
  induction h with
  | nil => exact List.Pairwise.nil
  | cons h t ih =>
    rw [List.pairwise_cons] at hp ⊢
    refine ⟨fun v hv => ?_, ih hp.2⟩
    obtain ⟨y, hy, hr⟩ := t.mem v hv
    exact hST _ _ _ _ h hr (hp.1 y hy)
theorem Rel2.zip {α : Type} {R : α → α → Prop} {n : Nat} {f : α → α} (h0 : ∀ x, R x x) (hf : ∀ x, R x (f x)) : ∀ (xs : List α) (c : Nat), Rel2 R xs ((xs.zipIdx c).map fun x => if x.2 = n then f x.1 else x.1)
  | [], _ => .nil
  | x :: xs, c => by
    rw [List.zipIdx_cons, List.map_cons]
    refine .cons ?_ (Rel2.zip h0 hf xs (c + 1))
    dsimp only
    split
    · exact hf x
    · exact h0 x
theorem Rel2.flat {α β γ δ : Type} {R : α → β → Prop} {S : γ → δ → Prop} {f : α → List γ} {g : β → List δ} (hfg : ∀ a b, R a b → Rel2 S (f a) (g b)) {xs : List α} {us : List β} (h : Rel2 R xs us) : Rel2 S (xs.flatMap f) (us.flatMap g) := by
  induction h with
  | nil => exact .nil
  | cons h _ ih =>
    rw [List.flatMap_cons, List.flatMap_cons]
    exact (hfg _ _ h).append ih
/-- A row with fewer seats. -/
structure SubRow (r u : RowR) : Prop where
  y : u.y = r.y
  x : u.x = r.x
  st : u.step = r.step
  fr : u.fr = r.fr
  to : u.to = r.to
  seats : ∀ p ∈ seatsS u, p ∈ seatsS r
theorem SubRow.refl (r : RowR) : SubRow r r := ⟨rfl, rfl, rfl, rfl, rfl, fun _ h => h⟩
theorem SubRow.gap (s : Int) (r : RowR) : SubRow r (gapR s r) := ⟨rfl, rfl, rfl, rfl, rfl, seats_sub s r⟩
theorem rows_gap (i k : Nat) (s : Int) (l : LevR) : Rel2 SubRow (allRows l) (allRows (gapL i k s l)) := by
  unfold allRows
  have h0 : ∀ xs : List RowR, Rel2 SubRow xs xs := fun xs => by
    induction xs with
    | nil => exact .nil
    | cons x xs ih => exact .cons (SubRow.refl x) ih
  refine Rel2.flat (R := fun b u => u = b ∨ u = gapB k s b) (fun b u h => ?_) (Rel2.zip (R := fun b u => u = b ∨ u = gapB k s b) (f := gapB k s) (fun x => Or.inl rfl) (fun x => Or.inr rfl) l.blocks 0)
  rcases h with rfl | rfl
  · exact h0 _
  · exact Rel2.zip SubRow.refl (SubRow.gap s) b.rows 0
theorem any_sub {α : Type} {xs ys : List α} {p : α → Bool} (h : ∀ x ∈ ys, x ∈ xs) (hp : xs.any p = false) : ys.any p = false := by
  rw [List.any_eq_false] at hp ⊢
  exact fun x hx => hp x (h x hx)
theorem several_gap {l : LevR} (i k : Nat) (s : Int) (h : severalS l = []) : severalS (gapL i k s l) = [] := by
  unfold severalS at h ⊢
  rw [sev_ok] at h
  show severalR (reachS l.aisles l.doors) _ = []
  rw [sev_ok]
  have hR := rows_gap i k s l
  refine ⟨hR.pair (fun a b u v ha hb hab => ?_) h.ap, fun u hu => ?_, h.am, fun a ha => ⟨fun u hu => ?_, (h.ar a ha).2⟩⟩
  · unfold shareB at hab ⊢
    rw [List.any_eq_false] at hab ⊢
    intro p hp
    have h1 := hab p (hb.seats p hp)
    rw [ha.y, hb.y]
    simp only [Bool.not_eq_true] at h1 ⊢
    exact any_sub ha.seats h1
  · obtain ⟨r, hr, hs⟩ := hR.mem u hu
    obtain ⟨q1, q2⟩ := h.cl r hr
    refine ⟨?_, ?_⟩
    · unfold blockedB at q1 ⊢
      rw [hs.y]
      exact any_sub hs.seats q1
    · unfold besideB leftS rightS at q2 ⊢
      rw [hs.y, hs.x, hs.st, hs.fr, hs.to]
      exact q2
  · obtain ⟨r, hr, hs⟩ := hR.mem u hu
    have q := (h.ar a ha).1 r hr
    unfold inAreaB at q ⊢
    rw [hs.y]
    exact any_sub hs.seats q

theorem gap_faults {h : HallR} {n i k : Nat} {s : Int} (hf : faultsS h = []) (hg : ∀ (l : LevR) (b : BlkR) (r : RowR), (l, n) ∈ h.levels.zipIdx → (b, i) ∈ l.blocks.zipIdx → (r, k) ∈ b.rows.zipIdx → GapOk s r) (hc : (placesS (gapH n i k s h)).length ≤ 4000) : faultsS (gapH n i k s h) = [] := by
  have hf0 := hf
  obtain ⟨hs, _, hv⟩ := single_of hf
  have hst : (coordB h.stage.x && coordB h.stage.y) = true := by
    unfold faultsS at hf0
    rw [if_neg (fun e => e hs)] at hf0
    by_cases hst : ¬ (coordB h.stage.x && coordB h.stage.y) = true
    · rw [if_pos hst] at hf0
      cases hf0
    · simpa using hst
  have hs2 := single_gap hs hg
  have hc2 : ¬ 4000 < countS (gapH n i k s h) := by
    have := places_len (noSingle hs2)
    omega
  have hst2 : (gapH n i k s h).stage = h.stage := rfl
  unfold faultsS
  rw [if_neg (fun e => e hs2), hst2, if_neg (by rw [hst]; simp), if_neg hc2, List.flatMap_eq_nil_iff]
  intro l hl
  obtain ⟨l0, h0, e | e⟩ := modS_mem hl
  · rw [e]
    exact flat_nil hv h0
  · rw [e]
    exact several_gap i k s (flat_nil hv h0)
end Go.Proofs.Ytmcdhggnpfhlmaa
