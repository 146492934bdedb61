/- HallCompanions: the plain law. -/
import Derived.Test.YtmcdhggnpfhlmaaQHCB31

namespace Go.Proofs.Ytmcdhggnpfhlmaa
open Go.RowKit Go.IntWalk
set_option linter.unusedSimpArgs false
set_option linter.unusedVariables false

/-- Places, the first of which has the number B, of which each goes with one among them. -/
structure CompAt (B : Nat) (P : List PlaceR) : Prop where
  bes : ∀ (i : Nat) (hi : i < P.length), P[i].kind = 2 → ∃ (j : Nat) (hj : j < P.length), P[i].wth = ((B + j : Nat) : Int) ∧ P[j].kind = 1 ∧ P[j].level = P[i].level ∧ P[j].block = P[i].block ∧ P[j].row = P[i].row
  whl : ∀ (i : Nat) (hi : i < P.length), P[i].kind = 1 → (P[i].wth = -1 ∧ ∀ (j : Nat) (hj : j < P.length), P[j].kind = 2 → P[j].wth ≠ ((B + i : Nat) : Int)) ∨ ∃ (j : Nat) (hj : j < P.length), P[i].wth = ((B + j : Nat) : Int) ∧ P[j].kind = 2 ∧ P[j].wth = ((B + i : Nat) : Int)
  oth : ∀ (i : Nat) (hi : i < P.length), P[i].kind ≠ 2 → P[i].kind ≠ 1 → P[i].wth = -1

theorem CompAt.nil (B : Nat) : CompAt B [] := ⟨fun i hi => absurd hi (Nat.not_lt_zero _), fun i hi => absurd hi (Nat.not_lt_zero _), fun i hi => absurd hi (Nat.not_lt_zero _)⟩

theorem get_l {X Y : List PlaceR} {i : Nat} (hi : i < X.length) (h : i < (X ++ Y).length) : (X ++ Y)[i]'h = X[i] := List.getElem_append_left hi
theorem get_r {X Y : List PlaceR} {i : Nat} (hi : X.length + i < (X ++ Y).length) (hy : i < Y.length) : (X ++ Y)[X.length + i]'hi = Y[i] := by
  rw [List.getElem_append_right (by omega)]
  simp

theorem CompAt.append {X Y : List PlaceR} (hx : CompAt 0 X) (hy : CompAt X.length Y) : CompAt 0 (X ++ Y) := by
  have hl : (X ++ Y).length = X.length + Y.length := List.length_append
  refine ⟨fun i hi hk => ?_, fun i hi hk => ?_, fun i hi h1 h2 => ?_⟩
  · by_cases hiX : i < X.length
    · rw [get_l hiX] at hk ⊢
      obtain ⟨j, hj, h1, h2⟩ := hx.bes i hiX hk
      exact ⟨j, by omega, h1, by rw [get_l hj]; exact h2⟩
    · obtain ⟨a, rfl⟩ : ∃ a, i = X.length + a := ⟨i - X.length, by omega⟩
      have ha : a < Y.length := by omega
      rw [get_r hi ha] at hk ⊢
      obtain ⟨j, hj, h1, h2⟩ := hy.bes a ha hk
      exact ⟨X.length + j, by omega, by rw [h1]; omega, by rw [get_r (by omega) hj]; exact h2⟩
  · by_cases hiX : i < X.length
    · rw [get_l hiX] at hk ⊢
      rcases hx.whl i hiX hk with ⟨h1, h2⟩ | ⟨j, hj, h1, h2, h3⟩
      · refine Or.inl ⟨h1, fun j hj hk2 => ?_⟩
        by_cases hjX : j < X.length
        · rw [get_l hjX] at hk2 ⊢
          exact h2 j hjX hk2
        · obtain ⟨b, rfl⟩ : ∃ b, j = X.length + b := ⟨j - X.length, by omega⟩
          have hb : b < Y.length := by omega
          rw [get_r hj hb] at hk2 ⊢
          obtain ⟨c, hc, e, _⟩ := hy.bes b hb hk2
          rw [e]
          omega
      · exact Or.inr ⟨j, by omega, h1, by rw [get_l hj]; exact ⟨h2, h3⟩⟩
    · obtain ⟨a, rfl⟩ : ∃ a, i = X.length + a := ⟨i - X.length, by omega⟩
      have ha : a < Y.length := by omega
      rw [get_r hi ha] at hk ⊢
      rcases hy.whl a ha hk with ⟨h1, h2⟩ | ⟨j, hj, h1, h2, h3⟩
      · refine Or.inl ⟨h1, fun j hj hk2 => ?_⟩
        by_cases hjX : j < X.length
        · rw [get_l hjX] at hk2 ⊢
          obtain ⟨c, hc, e, _⟩ := hx.bes j hjX hk2
          rw [e]
          omega
        · obtain ⟨b, rfl⟩ : ∃ b, j = X.length + b := ⟨j - X.length, by omega⟩
          have hb : b < Y.length := by omega
          rw [get_r hj hb] at hk2 ⊢
          have := h2 b hb hk2
          intro e
          exact this (by rw [e]; omega)
      · exact Or.inr ⟨X.length + j, by omega, by rw [h1]; omega, by rw [get_r (by omega) hj]; exact ⟨h2, by rw [h3]; omega⟩⟩
  · by_cases hiX : i < X.length
    · rw [get_l hiX] at h1 h2 ⊢
      exact hx.oth i hiX h1 h2
    · obtain ⟨a, rfl⟩ : ∃ a, i = X.length + a := ⟨i - X.length, by omega⟩
      have ha : a < Y.length := by omega
      rw [get_r hi ha] at h1 h2 ⊢
      exact hy.oth a ha h1 h2

theorem kindS_two {k : Int} : kindS k = 2 ↔ k = 4 := by
  unfold kindS
  split
  · omega
  · split <;> omega
theorem kindS_one {k : Int} : kindS k = 1 ↔ k = 2 := by
  unfold kindS
  split
  · omega
  · split <;> omega

theorem comp_row {h : HallR} {l : LevR} {n i k : Nat} {r : RowR} {B : Nat} (hwb : Wheels r) : CompAt B (rowPlaces h l n i k r B) := by
  have hl : (rowPlaces h l n i k r B).length = (seatsS r).length := by simp [rowPlaces]
  have hg : ∀ {a : Nat} (ha : a < (seatsS r).length) (ha2 : a < (rowPlaces h l n i k r B).length), (rowPlaces h l n i k r B)[a]'ha2 = { seatPlace h l n i k r ((seatsS r)[a]'ha) with wth := withS r B ((seatsS r)[a]'ha).1 } := fun ha ha2 => by simp [rowPlaces]
  have hkind : ∀ {a : Nat} (ha : a < (seatsS r).length) (ha2 : a < (rowPlaces h l n i k r B).length), ((rowPlaces h l n i k r B)[a]'ha2).kind = kindS (markS r.marks ((seatsS r)[a]'ha).1).kind := fun ha ha2 => by rw [hg ha]; rfl
  have hwth : ∀ {a : Nat} (ha : a < (seatsS r).length) (ha2 : a < (rowPlaces h l n i k r B).length), ((rowPlaces h l n i k r B)[a]'ha2).wth = withS r B ((seatsS r)[a]'ha).1 := fun ha ha2 => by rw [hg ha]
  have hw4 : ∀ {a : Nat} (ha : a < (seatsS r).length), (markS r.marks ((seatsS r)[a]'ha).1).kind = 4 → ∃ (b : Nat) (hb : b < (seatsS r).length), (markS r.marks ((seatsS r)[a]'ha).1).wth = ((seatsS r)[b]'hb).1 ∧ (markS r.marks ((seatsS r)[b]'hb).1).kind = 2 ∧ withS r B ((seatsS r)[a]'ha).1 = ((B + b : Nat) : Int) := fun {a} ha hk => by
    obtain ⟨b, hb, e, hk2⟩ := hwb a ha hk
    refine ⟨b, hb, e, hk2, ?_⟩
    unfold withS
    simp only [hk, if_true]
    rw [e, place_of hb]
  refine ⟨fun a ha hk => ?_, fun a ha hk => ?_, fun a ha h1 h2 => ?_⟩
  · have ha' : a < (seatsS r).length := by omega
    rw [hkind ha' ha, kindS_two] at hk
    obtain ⟨b, hb, e, hk2, hw⟩ := hw4 ha' hk
    refine ⟨b, by omega, by rw [hwth ha' ha, hw], by rw [hkind hb (by omega), kindS_one]; exact hk2, ?_, ?_, ?_⟩ <;> · rw [hg hb, hg ha']; rfl
  · have ha' : a < (seatsS r).length := by omega
    rw [hkind ha' ha, kindS_one] at hk
    rw [hwth ha' ha]
    have hws : withS r B ((seatsS r)[a]'ha').1 = match (seatsS r).find? (bsd r ((seatsS r)[a]'ha').1) with
      | some q => ((B + placeOf r q.1 : Nat) : Int)
      | none => -1 := by
      have h24 : ((2 : Int) = 4) = False := by simp
      unfold withS
      simp only [hk, h24, if_false, if_true]
      rfl
    rw [hws]
    cases hf : (seatsS r).find? (bsd r ((seatsS r)[a]'ha').1) with
    | none =>
      refine Or.inl ⟨rfl, fun c hc hk2 => ?_⟩
      have hc' : c < (seatsS r).length := by omega
      rw [hkind hc' hc, kindS_two] at hk2
      obtain ⟨d, hd, e, _, hw⟩ := hw4 hc' hk2
      rw [hwth hc' hc, hw]
      intro e2
      have hda : d = a := by omega
      subst hda
      have := List.find?_eq_none.1 hf _ (List.getElem_mem hc')
      exact this (by simp [bsd, hk2, e])
    | some q =>
      have hq := List.find?_some hf
      have hqm := List.mem_of_find?_eq_some hf
      obtain ⟨c, hc, rfl⟩ := List.mem_iff_getElem.1 hqm
      unfold bsd at hq
      simp only [Bool.and_eq_true, decide_eq_true_eq] at hq
      obtain ⟨d, hd, e, _, hw⟩ := hw4 hc hq.1
      have hda : d = a := by
        have h1 := place_of hd
        have h2 := place_of ha'
        rw [← e, hq.2] at h1
        omega
      subst hda
      refine Or.inr ⟨c, by omega, ?_, by rw [hkind hc (by omega), kindS_two]; exact hq.1, by rw [hwth hc (by omega), hw]⟩
      show ((B + placeOf r ((seatsS r)[c]'hc).1 : Nat) : Int) = _
      rw [place_of hc]
  · have ha' : a < (seatsS r).length := by omega
    rw [hkind ha' ha] at h1 h2
    rw [hwth ha' ha]
    have e4 : (markS r.marks ((seatsS r)[a]'ha').1).kind ≠ 4 := fun e => h1 (kindS_two.2 e)
    have e2 : (markS r.marks ((seatsS r)[a]'ha').1).kind ≠ 2 := fun e => h2 (kindS_one.2 e)
    unfold withS
    simp only [if_neg e4, if_neg e2]

theorem comp_area {h : HallR} {l : LevR} {n i : Nat} {a : AreaR} {B : Nat} : CompAt B (areaPlaces h l n i a) := by
  have hg : ∀ (c : Nat) (hc : c < (areaPlaces h l n i a).length), (areaPlaces h l n i a)[c].kind = 3 ∧ (areaPlaces h l n i a)[c].wth = -1 := fun c hc => by
    unfold areaPlaces
    simp
  refine ⟨fun c hc hk => ?_, fun c hc hk => ?_, fun c hc _ _ => (hg c hc).2⟩ <;>
  · rw [(hg c hc).1] at hk
    omega

theorem comp_fold {α : Type} (f : List PlaceR → α × Nat → List PlaceR) : ∀ (xs : List α), (∀ o x i, x ∈ xs → CompAt 0 o → CompAt 0 (f o (x, i))) → ∀ (k : Nat) (out : List PlaceR), CompAt 0 out → CompAt 0 ((xs.zipIdx k).foldl f out)
  | [], _, k, out, h => h
  | x :: xs, hf, k, out, h => by
    rw [List.zipIdx_cons, List.foldl_cons]
    exact comp_fold f xs (fun o y i hy => hf o y i (List.mem_cons_of_mem _ hy)) _ _ (hf _ _ _ (List.mem_cons_self ..) h)
theorem comp_places {h : HallR} (hs : NoSingle h) : CompAt 0 (placesS h) := by
  unfold placesS
  refine comp_fold (putLevel h) h.levels (fun o l n hl ho => ?_) 0 [] (CompAt.nil 0)
  unfold putLevel
  refine comp_fold (putArea h l n) l.areas (fun o a i ha ho => ho.append comp_area) 0 _ ?_
  refine comp_fold (putBlk h l n) l.blocks (fun o b i hb ho => ?_) 0 _ ho
  unfold putBlk
  exact comp_fold (putRow h l n i) b.rows (fun o r k hr ho => ho.append (comp_row (hs.rows l hl b hb r hr).2)) 0 _ ho
theorem comp_build (h : HallR) : CompAt 0 (buildS h).1 := by
  unfold buildS
  by_cases hf : faultsS h = []
  · rw [if_pos hf]
    have hs : singleS h = [] := by
      apply Classical.byContradiction
      intro hn
      unfold faultsS at hf
      rw [if_pos hn] at hf
      exact hn hf
    exact comp_places (noSingle hs)
  · rw [if_neg hf]
    exact CompAt.nil 0
end Go.Proofs.Ytmcdhggnpfhlmaa
