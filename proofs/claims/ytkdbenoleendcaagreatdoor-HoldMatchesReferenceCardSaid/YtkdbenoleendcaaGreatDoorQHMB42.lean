/- A region that draws its order and changes at its end what it has read: a condition that the late operations need not keep. -/
import Derived.Test.YtkdbenoleendcaaGreatDoorQHMB01
import Derived.Deep.RegionHeld3

namespace Go.Proofs.YtkdbenoleendcaaGreatDoor
open Go.RowKit

section
variable {P : Program} {ops : Array Oper} {Q : Exit → Act → World → Prop} {md : Region.Mode} {S : World → Prop} {L : List Nat}

/-- Whatever order is picked from here on, and what is carried out keeps S, but for the late operations. -/
def wpAnyL (P : Program) (md : Region.Mode) (ops : Array Oper) (Q : Exit → Act → World → Prop) (S : World → Prop) (L : List Nat) : Nat → Array Bool → Act → World → Prop
  | 0, listed, a, w => Region.ready md ops listed = [] ∧ Q .normal a w
  | fuel + 1, listed, a, w =>
    (Region.ready md ops listed = [] → Q .normal a w) ∧
    ∀ i ∈ Region.ready md ops listed, wpOp P ops Q i (fun a' w' => (L.contains i = false → S w → S w') ∧ wpAnyL P md ops Q S L fuel (listed.setIfInBounds i true) a' w') a w

theorem wpAny_of_late : ∀ (fuel : Nat) (listed : Array Bool) (a : Act) (w : World), wpAnyL P md ops Q S L fuel listed a w → wpAny P md ops Q fuel listed a w
  | 0, _, _, _, h => h
  | fuel + 1, _, _, _, h => ⟨h.1, fun i hi => wpOp_mono (fun a' w' h' => wpAny_of_late fuel _ a' w' h'.2) (h.2 i hi)⟩

theorem wpAnyL_first {C : World → Prop} {i : Nat} {oi : Oper} {v : Value} (D : Nat → Prop) (hi : ops[i]? = some oi) (hsel : ∀ (j : Nat) (o : Oper) cs b, ops[j]? = some o → o.op ≠ .select cs b)
    (hQ : ∀ c a w, Q (.panic c) (a.put oi.dst v) w → Q (.panic c) a w)
    (hD : ∀ d, D d → ∃ od, ops[d]? = some od ∧ ∃ e ∈ od.after, Region.binds md e = true ∧ (e.on = i ∨ D e.on))
    (hC : ∀ j w w', ¬ D j → (L.contains j = false → S w → S w') → C w → C w') :
    ∀ (fuel : Nat) (listed : Array Bool) (a : Act) (w : World),
      (∀ j oj, ops[j]? = some oj → j ≠ i → listed.getD j true = false → (∀ e ∈ oj.after, Region.binds md e = true → e.on ≠ i) → oi.apart ops oj = true) →
      (∀ d, D d → listed.getD d true = false) →
      i ∈ Region.ready md ops listed → YieldsIf P ops C oi v a → C w →
      wpAnyL P md ops Q S L fuel (listed.setIfInBounds i true) (a.put oi.dst v) w → wpAnyL P md ops Q S L (fuel + 1) listed a w := by
  intro fuel
  induction fuel with
  | zero =>
    intro listed a w _ _ hr hy hS H
    refine ⟨fun h => (by rw [h] at hr; cases hr), fun j hj => ?_⟩
    by_cases hji : j = i
    · subst hji; exact hy.wpOp hi hS ⟨fun _ h => h, H⟩
    · have := ready_mono hj hji
      rw [H.1] at this
      cases this
  | succ fuel ih =>
    intro listed a w hfree hun0 hr hy hS H
    refine ⟨fun h => (by rw [h] at hr; cases hr), fun j hj => ?_⟩
    by_cases hji : j = i
    · subst hji; exact hy.wpOp hi hS ⟨fun _ h => h, H⟩
    · have h1 := H.2 j (ready_mono hj hji)
      obtain ⟨hjun, oj, hoj, hall⟩ := mem_ready.1 hj
      have hcon : ∀ k, listed.getD k true = false → listed.getD k false = true → False := fun k h0 h1 => by
        rcases Nat.lt_or_ge k listed.size with h' | h'
        · simp [h'] at h0 h1; rw [h0] at h1; cases h1
        · simp [Array.getElem?_eq_none h'] at h1
      have hnot : ∀ e ∈ oj.after, Region.binds md e = true → e.on ≠ i := fun e he hb heq => by
        have h1 := hall e he hb
        rw [heq] at h1
        exact hcon i (mem_ready.1 hr).1 h1
      have hjD : ¬ D j := fun hd => by
        obtain ⟨od, hod, e, he, hb, h2⟩ := hD j hd
        rw [hoj] at hod
        obtain rfl : oj = od := by simpa using hod
        have h3 := hall e he hb
        rcases h2 with h2 | h2
        · exact hnot e he hb h2
        · exact hcon _ (hun0 _ h2) h3
      have h2 := wpOp_putIf hoj (hfree j oj hoj hji hjun hnot) (fun cs b => hsel i oi cs b hi) (fun cs b => hsel j oj cs b hoj) hQ hy h1
      have hfree' : ∀ k ok, ops[k]? = some ok → k ≠ i → (listed.setIfInBounds j true).getD k true = false →
          (∀ e ∈ ok.after, Region.binds md e = true → e.on ≠ i) → oi.apart ops ok = true := fun k ok hk hki hun hno => by
        refine hfree k ok hk hki ?_ hno
        by_cases hjk : j = k
        · subst hjk; exact hjun
        · rw [getD_set_ne true hjk] at hun; exact hun
      refine wpOp_mono (fun a' w' h3 => ⟨h3.2.1, ih (listed.setIfInBounds j true) a' w' hfree' (fun d hd => ?_) (ready_mono hr (Ne.symm hji)) h3.1 (hC j w w' hjD h3.2.1 hS) ?_⟩) h2
      · rw [getD_set_ne true (fun (e : j = d) => hjD (by rw [e]; exact hd))]; exact hun0 d hd
      · rw [Array.setIfInBounds_comm _ _ hji]
        exact h3.2.2

/-- The operations that wait for operation i. -/
def lateDesc (md : Region.Mode) (ops : Array Oper) (i : Nat) : List Nat :=
  (List.range ops.size).foldl (fun D j => match ops[j]? with
    | some o => if o.after.any (fun e => Region.binds md e && (e.on == i || D.contains e.on)) then j :: D else D
    | none => D) []

/-- The late operations wait for operation i. -/
def lateOk (md : Region.Mode) (ops : Array Oper) (listed : Array Bool) (L : List Nat) (i : Nat) : Bool :=
  L.all (fun l => (lateDesc md ops i).contains l) && (lateDesc md ops i).all fun d => !listed.getD d true && match ops[d]? with
    | some o => o.after.any (fun e => Region.binds md e && (e.on == i || (lateDesc md ops i).contains e.on))
    | none => false

/-- An operation that reads. -/
theorem takeL {i : Nat} {oi : Oper} {v : Value} {fuel : Nat} {listed : Array Bool} {a : Act} {w : World} (d : Tmp) (hi : ops[i]? = some oi) (hd : oi.dst = some d)
    (hs : Region.noSelect ops = true) (hf : Region.free md ops listed i = true) (hr : (Region.ready md ops listed).contains i = true) (hl : lateOk md ops listed L i = true)
    (hQ : ∀ c a w, Q (.panic c) (a.put oi.dst v) w → Q (.panic c) a w) (hy : YieldsIf P ops S oi v a) (hS : S w)
    (h : wpAnyL P md ops Q S L fuel (listed.setIfInBounds i true) (a.put (some d) v) w) : wpAnyL P md ops Q S L (fuel + 1) listed a w := by
  unfold lateOk at hl
  simp only [Bool.and_eq_true, List.all_eq_true, List.contains_eq_mem, decide_eq_true_eq] at hl
  refine wpAnyL_first (C := S) (fun k => k ∈ lateDesc md ops i) hi (Region.noSelect_spec hs) hQ (fun d hd => ?_) (fun j w w' hj h hw => ?_) fuel listed a w (Region.free_spec hi hf) (fun d hd => ?_) (by simpa using hr) hy hS (by rw [hd]; exact h)
  · have := (hl.2 d hd).2
    cases ho : ops[d]? with
    | none => rw [ho] at this; cases this
    | some o =>
      rw [ho] at this
      obtain ⟨e, he, hb⟩ := Array.any_eq_true'.1 this
      simp only [Bool.and_eq_true, Bool.or_eq_true, beq_iff_eq, decide_eq_true_eq] at hb
      exact ⟨o, rfl, e, he, hb.1, hb.2⟩
  · refine h ?_ hw
    cases hc : L.contains j
    · rfl
    · rw [List.contains_eq_mem, decide_eq_true_eq] at hc
      exact absurd (hl.1 j hc) hj
  · simpa using (hl.2 d hd).1

/-- An operation that yields its value in whatever world. -/
theorem takeP {i : Nat} {oi : Oper} {v : Value} {fuel : Nat} {listed : Array Bool} {a : Act} {w : World} (d : Tmp) (hi : ops[i]? = some oi) (hd : oi.dst = some d)
    (hs : Region.noSelect ops = true) (hf : Region.free md ops listed i = true) (hr : (Region.ready md ops listed).contains i = true)
    (hQ : ∀ c a w, Q (.panic c) (a.put oi.dst v) w → Q (.panic c) a w) (hy : YieldsIf P ops (fun _ => True) oi v a)
    (h : wpAnyL P md ops Q S L fuel (listed.setIfInBounds i true) (a.put (some d) v) w) : wpAnyL P md ops Q S L (fuel + 1) listed a w :=
  wpAnyL_first (C := fun _ => True) (fun _ => False) hi (Region.noSelect_spec hs) hQ (fun _ h => h.elim) (fun _ _ _ _ _ h => h) fuel listed a w (Region.free_spec hi hf) (fun _ h => h.elim) (by simpa using hr) hy trivial (by rw [hd]; exact h)

/-- The one that is ready. -/
theorem readyL {i : Nat} {o : Oper} {fuel : Nat} {listed : Array Bool} {a : Act} {w : World} (hr : Region.ready md ops listed = [i]) (ho : ops[i]? = some o)
    (h : ∀ K' : Act → World → Prop, Shut (∀ a w', (L.contains i = false → S w → S w') → wpAnyL P md ops Q S L fuel (listed.setIfInBounds i true) a w' → K' a w') → if Region.wanted o (yielded ops a.tmps) = true then Oper.wp P o a w K' Q else K' (a.put o.dst undef) w) :
    wpAnyL P md ops Q S L (fuel + 1) listed a w := by
  refine ⟨fun h0 => (by rw [hr] at h0; cases h0), fun j hj => ?_⟩
  rw [hr] at hj
  obtain rfl : j = i := by simpa using hj
  exact wpOp_step ho (fun K' hK => h K' (fun a w' hS hW => hK a w' ⟨hS, hW⟩))

/-- All have come up. -/
theorem doneL {listed : Array Bool} {a : Act} {w : World} (hr : Region.ready md ops listed = []) (h : Q .normal a w) :
    ∀ fuel, wpAnyL P md ops Q S L fuel listed a w
  | 0 => ⟨hr, h⟩
  | _ + 1 => ⟨fun _ => h, by rw [hr]; simp⟩

/-- The beginning. -/
theorem regionL {id : Nat} {a : Act} {w : World} (hm : P.follows .mixedOrders = true) (hS : S w.drew)
    (h : S w.drew → wpAnyL P .any ops Q S L ops.size (Array.replicate ops.size false) a w.drew) : (Code.region id ops true).wp P Q a w :=
  wp_region_any hm (wpAny_of_late _ _ _ _ (h hS))
end
end Go.Proofs.YtkdbenoleendcaaGreatDoor
