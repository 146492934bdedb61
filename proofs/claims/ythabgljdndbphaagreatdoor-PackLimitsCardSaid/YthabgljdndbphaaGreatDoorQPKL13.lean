/- foyerref22.best: the walk; A region of which some operations write or make memory, in whatever order they come up: one step for each of them, whatever has come up, and one end. -/
import Derived.Test.YthabgljdndbphaaGreatDoorQPKL00
import Derived.Test.YthabgljdndbphaaGreatDoorQPKL11
import Derived.Deep.RegionHeld3

set_option linter.unusedVariables false
set_option linter.unusedSimpArgs false
namespace Go.Proofs.YthabgljdndbphaaGreatDoor
open Go.RowKit Go.IntWalk

end Go.Proofs.YthabgljdndbphaaGreatDoor

namespace Go.Proofs.YthabgljdndbphaaGreatDoor
open Go.RowKit

/-- The frame with these values in the effects' slots. -/
def putAll (a : Act) : List (Nat × Tmp) → (Nat → Value) → Nat → Act
 | [], _, _ => a
 | e :: es, v, k => putAll (a.put (some e.2) (v k)) es v (k + 1)

def upd (v : Nat → Value) (k : Nat) (u : Value) : Nat → Value := fun j => if j = k then u else v j

theorem put_put (a : Act) (d : Tmp) (u u' : Value) : (a.put (some d) u).put (some d) u' = a.put (some d) u' := by
 simp [Act.put]

theorem putAll_congr : ∀ (es : List (Nat × Tmp)) (a : Act) (v v' : Nat → Value) (k : Nat), (∀ j, k ≤ j → v j = v' j) → putAll a es v k = putAll a es v' k := by
 intro es
 induction es with
 | nil => intro a v v' k _; rfl
 | cons e es ih => intro a v v' k h; rw [putAll, putAll, h k (by omega), ih _ v v' (k + 1) (fun j hj => h j (by omega))]

theorem putAll_put : ∀ (es : List (Nat × Tmp)) (a : Act) (v : Nat → Value) (k : Nat) (d : Tmp) (u : Value), (∀ e ∈ es, e.2 ≠ d) → (putAll a es v k).put (some d) u = putAll (a.put (some d) u) es v k := by
 intro es
 induction es with
 | nil => intro a v k d u _; rfl
 | cons e es ih =>
  intro a v k d u h
  have he := h e (by simp)
  rw [putAll, putAll, ih _ _ _ _ _ (fun x hx => h x (by simp [hx])), Act.put_comm]
  intro t ht
  simp only [Option.some.injEq] at ht
  subst ht
  simp only [ne_eq, Option.some.injEq]
  exact fun h => he h.symm

theorem putAll_upd : ∀ (es : List (Nat × Tmp)) (a : Act) (v : Nat → Value) (k j : Nat) (e : Nat × Tmp) (u : Value), es.Pairwise (fun x y => x.2 ≠ y.2) → es[j]? = some e → (putAll a es v k).put (some e.2) u = putAll a es (upd v (k + j) u) k := by
 intro es
 induction es with
 | nil => intro a v k j e u _ h; simp at h
 | cons x es ih =>
  intro a v k j e u hp h
  rw [List.pairwise_cons] at hp
  cases j with
  | zero =>
   obtain rfl : x = e := by simpa using h
   rw [putAll, putAll, putAll_put _ _ _ _ _ _ (fun y hy => fun h => hp.1 y hy h.symm), put_put]
   have e1 : upd v (k + 0) u k = u := by simp [upd]
   rw [e1]
   exact putAll_congr _ _ _ _ _ (fun j hj => by unfold upd; rw [if_neg (by omega)])
  | succ j =>
   rw [putAll, putAll, ih _ v (k + 1) j e u hp.2 (by simpa using h)]
   have e1 : upd v (k + (j + 1)) u k = v k := by unfold upd; rw [if_neg (by omega)]
   rw [e1, show k + 1 + j = k + (j + 1) from by omega]

/-- What has come up: those of the effects whose bit is set. -/
def setBits (listed : Array Bool) : List (Nat × Tmp) → List Bool → Array Bool
 | e :: es, b :: bs => setBits (if b then listed.setIfInBounds e.1 true else listed) es bs
 | _, _ => listed

def allBits : Nat → List (List Bool)
 | 0 => [[]]
 | n + 1 => (allBits n).flatMap fun l => [false :: l, true :: l]

theorem mem_allBits : ∀ (l : List Bool), l ∈ allBits l.length := by
 intro l
 induction l with
 | nil => simp [allBits]
 | cons b l ih =>
  simp only [List.length_cons, allBits, List.mem_flatMap]
  exact ⟨l, ih, by cases b <;> simp⟩

theorem setBits_set : ∀ (es : List (Nat × Tmp)) (listed : Array Bool) (D : List Bool) (j : Nat) (e : Nat × Tmp), D.length = es.length → es[j]? = some e → (setBits listed es D).setIfInBounds e.1 true = setBits listed es (D.set j true) := by
 have sw : ∀ (es : List (Nat × Tmp)) (listed : Array Bool) (D : List Bool) (i : Nat), (setBits listed es D).setIfInBounds i true = setBits (listed.setIfInBounds i true) es D := by
  intro es
  induction es with
  | nil => intro listed D i; cases D <;> rfl
  | cons x es ih =>
   intro listed D i
   cases D with
   | nil => rfl
   | cons b D =>
    rw [setBits, setBits, ih]
    cases b
    ·
     rfl
    ·
     simp only [if_true]
     by_cases h : i = x.1
     ·
      rw [h]
     ·
      rw [Array.setIfInBounds_comm _ _ (fun e => h e.symm)]
 intro es
 induction es with
 | nil => intro listed D j e _ h; simp at h
 | cons x es ih =>
  intro listed D j e hl h
  cases D with
  | nil => simp at hl
  | cons b D =>
   cases j with
   | zero =>
    obtain rfl : x = e := by simpa using h
    rw [List.set_cons_zero, setBits, setBits, sw]
    cases b
    ·
     simp
    ·
     simp
   | succ j =>
    rw [List.set_cons_succ, setBits, setBits]
    exact ih _ D j e (by simpa using hl) (by simpa using h)

/-- With an effect all that it waits for has come up. -/
def closedB (need : List (List Nat)) (n : Nat) (D : List Bool) : Bool := (List.range n).all fun k => !(D.getD k false) || (need.getD k []).all fun j => D.getD j false

/-- Of the effects that have not come up, those may come up next whose bits in 'need' are set; nothing else may. -/
def readyOk (md : Region.Mode) (ops : Array Oper) (listed : Array Bool) (es : List (Nat × Tmp)) (need : List (List Nat)) : Bool :=
 (allBits es.length).all fun D => (D.all id) || !(closedB need es.length D) ||
  (!(Region.ready md ops (setBits listed es D)).isEmpty && (Region.ready md ops (setBits listed es D)).all fun i =>
   (List.range es.length).any fun k => (((es[k]?).map Prod.fst).getD 0 == i) && (!(D.getD k true) && ((need.getD k []).all fun n => D.getD n false)))

section
variable {P : Program} {ops : Array Oper} {Q : Exit → Act → World → Prop} {md : Region.Mode} {S : World → Prop}

/-- A take, its slot named. -/
theorem take_at {i : Nat} {oi : Oper} {v : Value} {fuel : Nat} {listed : Array Bool} {a : Act} {w : World} (d : Tmp) (hi : ops[i]? = some oi) (hd : oi.dst = some d)
  (hs : Region.noSelect ops = true) (hf : Region.free md ops listed i = true) (hr : (Region.ready md ops listed).contains i = true)
  (hQ : ∀ c a w, Q (.panic c) (a.put oi.dst v) w → Q (.panic c) a w) (hy : YieldsIf P ops S oi v a) (hS : S w)
  (h : wpAnyH P md ops Q S fuel (listed.setIfInBounds i true) (a.put (some d) v) w) : wpAnyH P md ops Q S (fuel + 1) listed a w :=
 wpAnyH_take hi hs hf hr hQ hy hS (by rw [hd]; exact h)

/-- What holds behind some of the effects. -/
structure EffInv (F : Nat → Value → World → Prop) (bk : Nat → Value → Option Nat) (W0 : World) (n : Nat) (D : List Bool) (v : Nat → Value) (w : World) : Prop where
 below : Below W0.heap.size W0 w
 fact : ∀ k, k < n → D.getD k false = true → F k (v k) w
 blk : ∀ k b, k < n → D.getD k false = true → bk k (v k) = some b → W0.heap.size ≤ b ∧ b < w.heap.size
 apart : ∀ j k b, j < n → k < n → j ≠ k → D.getD j false = true → D.getD k false = true → bk j (v j) = some b → bk k (v k) ≠ some b

theorem wpAnyH_effects (es : List (Nat × Tmp)) (need : List (List Nat)) (F : Nat → Value → World → Prop) (bk : Nat → Value → Option Nat) (W0 : World) (listed : Array Bool) (a0 : Act) (fuel : Nat)
  (hd : es.Pairwise (fun x y => x.2 ≠ y.2)) (hready : readyOk md ops listed es need = true)
  (hF : ∀ k u w w', F k u w → Below w.heap.size w w' → F k u w')
  (hstep : ∀ k e v w, k < es.length → es[k]? = some e → S w → Below W0.heap.size W0 w → (∀ n ∈ need.getD k [], F n (v n) w) →
   wpOp P ops Q e.1 (fun a' w' => ∃ u, a' = (putAll a0 es v 0).put (some e.2) u ∧ S w' ∧ Below w.heap.size w w' ∧ F k u w' ∧ ∀ b, bk k u = some b → w.heap.size ≤ b ∧ b < w'.heap.size) (putAll a0 es v 0) w)
  (hend : ∀ v w, S w → EffInv F bk W0 es.length (List.replicate es.length true) v w → wpAnyH P md ops Q S fuel (setBits listed es (List.replicate es.length true)) (putAll a0 es v 0) w) :
  ∀ (m : Nat) (D : List Bool) (v : Nat → Value) (w : World), D.length = es.length → D.countP (fun b => !b) = m → closedB need es.length D = true → S w → EffInv F bk W0 es.length D v w → wpAnyH P md ops Q S (fuel + m) (setBits listed es D) (putAll a0 es v 0) w := by
 intro m
 induction m with
 | zero =>
  intro D v w hl hc _ hS hI
  have hD : D = List.replicate es.length true := by
   rw [List.countP_eq_zero] at hc
   exact List.eq_replicate_iff.mpr ⟨hl, fun b hb => by have := hc b hb; simpa using this⟩
  subst hD
  exact hend v w hS hI
 | succ m ih =>
  intro D v w hl hc hcl hS hI
  have hr : ((D.all id) || !(closedB need es.length D) || (!(Region.ready md ops (setBits listed es D)).isEmpty && (Region.ready md ops (setBits listed es D)).all fun i =>
    (List.range es.length).any fun k => (((es[k]?).map Prod.fst).getD 0 == i) && (!(D.getD k true) && ((need.getD k []).all fun n => D.getD n false)))) = true := by
   unfold readyOk at hready
   rw [List.all_eq_true] at hready
   exact hready D (by rw [← hl]; exact mem_allBits D)
  have hna : D.all id = false := by
   cases h : D.all id with
   | false => rfl
   | true =>
    rw [List.all_eq_true] at h
    have : D.countP (fun b => !b) = 0 := List.countP_eq_zero.mpr (fun b hb => by have := h b hb; simpa using this)
    omega
  rw [hna, hcl, Bool.not_true, Bool.false_or, Bool.false_or, Bool.and_eq_true] at hr
  obtain ⟨hne, hall⟩ := hr
  refine ⟨fun h0 => by rw [h0] at hne; simp at hne, fun i hi => ?_⟩
  rw [List.all_eq_true] at hall
  have hi' := hall i hi
  rw [List.any_eq_true] at hi'
  obtain ⟨k, hk, hk2⟩ := hi'
  rw [List.mem_range] at hk
  simp only [Bool.and_eq_true, beq_iff_eq, Bool.not_eq_true', List.all_eq_true] at hk2
  obtain ⟨e1, e2, e3⟩ := hk2
  obtain ⟨e, he⟩ : ∃ e, es[k]? = some e := ⟨es[k], by simp [hk]⟩
  rw [he] at e1
  simp only [Option.map_some, Option.getD_some] at e1
  subst e1
  have e2' : D[k]? = some false := by
   have : k < D.length := by omega
   simp only [List.getD_eq_getElem?_getD, this, List.getElem?_eq_getElem, Option.getD_some] at e2 ⊢
   rw [e2]
  have hneed : ∀ n ∈ need.getD k [], F n (v n) w := fun n hn => by
   have h := e3 n hn
   have hlt : n < es.length := by
    rcases Nat.lt_or_ge n D.length with h' | h'
    ·
     omega
    ·
     simp [List.getD_eq_getElem?_getD, List.getElem?_eq_none h'] at h
   exact hI.fact n hlt h
  refine wpOp_mono (fun a' w' h => ?_) (hstep k e v w hk he hS hI.below hneed)
  obtain ⟨u, rfl, hS', hb, hFu, hblk⟩ := h
  refine ⟨hS', ?_⟩
  rw [putAll_upd es a0 v 0 k e u hd he, setBits_set es listed D k e hl he, Nat.zero_add]
  have hset : ∀ j, (D.set k true).getD j false = true → j = k ∨ D.getD j false = true := fun j hj => by
   by_cases h : j = k
   ·
    exact Or.inl h
   ·
    right
    rw [List.getD_eq_getElem?_getD, List.getElem?_set, if_neg (fun e => h e.symm)] at hj
    rw [List.getD_eq_getElem?_getD]; exact hj
  have hvo : ∀ j, j ≠ k → upd v k u j = v j := fun j hj => by unfold upd; rw [if_neg hj]
  have hvk : upd v k u k = u := by unfold upd; rw [if_pos rfl]
  refine ih (D.set k true) (upd v k u) w' (by rw [List.length_set]; exact hl) ?_ ?_ hS' ⟨hI.below.trans (hb.mono hI.below.size), fun j hj hDj => ?_, fun j b hj hDj hbj => ?_, fun i j b hi' hj hij hDi hDj hbi => ?_⟩
  ·
   have hkl : k < D.length := by omega
   have hx := List.take_append_drop k D
   have hdr : D.drop k = false :: D.drop (k + 1) := by
    rw [List.drop_eq_getElem_cons hkl]
    have := List.getElem?_eq_some_iff.1 e2'
    rw [this.2]
   have hst : D.set k true = D.take k ++ true :: D.drop (k + 1) := by rw [List.set_eq_take_append_cons_drop, if_pos hkl]
   rw [← hx, hdr, List.countP_append, List.countP_cons] at hc
   rw [hst, List.countP_append, List.countP_cons]
   simp at hc ⊢
   omega
  ·
   have hkl : k < D.length := by omega
   have hmono : ∀ j, D.getD j false = true → (D.set k true).getD j false = true := fun j hj => by
    rw [List.getD_eq_getElem?_getD, List.getElem?_set]
    split
    ·
     simp
    ·
     rw [List.getD_eq_getElem?_getD] at hj; exact hj
   unfold closedB at hcl ⊢
   rw [List.all_eq_true] at hcl ⊢
   intro j hj
   have h1 := hcl j hj
   rw [Bool.or_eq_true, List.all_eq_true] at h1 ⊢
   by_cases hjk : j = k
   ·
    subst hjk
    exact Or.inr (fun n hn => hmono n (e3 n hn))
   ·
    rcases h1 with h1 | h1
    ·
     left
     rw [List.getD_eq_getElem?_getD, List.getElem?_set, if_neg (fun e => hjk e.symm), ← List.getD_eq_getElem?_getD]
     exact h1
    ·
     exact Or.inr (fun n hn => hmono n (h1 n hn))
  ·
   by_cases h : j = k
   ·
    subst h; rw [hvk]; exact hFu
   ·
    rw [hvo j h]
    exact hF _ _ _ _ (hI.fact j hj ((hset j hDj).resolve_left h)) hb
  ·
   by_cases h : j = k
   ·
    subst h; rw [hvk] at hbj; have := hblk b hbj; exact ⟨Nat.le_trans hI.below.size this.1, this.2⟩
   ·
    rw [hvo j h] at hbj
    have := hI.blk j b hj ((hset j hDj).resolve_left h) hbj
    exact ⟨this.1, Nat.lt_of_lt_of_le this.2 hb.size⟩
  ·
   by_cases h : i = k
   ·
    subst h
    have hji : j ≠ i := fun e => hij e.symm
    rw [hvk] at hbi
    rw [hvo j hji]
    intro hbj
    have h1 := hI.blk j b hj ((hset j hDj).resolve_left hji) hbj
    have h2 := hblk b hbi
    omega
   ·
    rw [hvo i h] at hbi
    by_cases h' : j = k
    ·
     subst h'
     rw [hvk]
     intro hbj
     have h1 := hI.blk i b hi' ((hset i hDi).resolve_left h) hbi
     have h2 := hblk b hbj
     omega
    ·
     rw [hvo j h']
     exact hI.apart i j b hi' hj hij ((hset i hDi).resolve_left h) ((hset j hDj).resolve_left h') hbi

theorem setBits_none : ∀ (es : List (Nat × Tmp)) (listed : Array Bool), setBits listed es (List.replicate es.length false) = listed := by
 intro es
 induction es with
 | nil => intro listed; rfl
 | cons e es ih => intro listed; rw [List.length_cons, List.replicate_succ, setBits]; exact ih _

theorem put_same (a : Act) (d : Tmp) : a.put (some d) (a.tmps.getD d undef) = a := by
 cases a with
 | mk tmps defers =>
  simp only [Act.put, Act.mk.injEq, and_true]
  apply Array.ext
  ·
   simp
  ·
   intro i h1 h2
   rw [Array.getElem_setIfInBounds (by simpa using h1)]
   split
   ·
    rename_i e; subst e; simp [Array.getD, h2]
   ·
    rfl

theorem putAll_same : ∀ (es : List (Nat × Tmp)) (a : Act) (v : Nat → Value) (k : Nat), (∀ j e, es[j]? = some e → v (k + j) = a.tmps.getD e.2 undef) → putAll a es v k = a := by
 intro es
 induction es with
 | nil => intro a v k _; rfl
 | cons e es ih =>
  intro a v k h
  have h0 := h 0 e rfl
  rw [Nat.add_zero] at h0
  rw [putAll, h0, put_same]
  exact ih a v (k + 1) (fun j x hx => by rw [← h (j + 1) x (by simpa using hx)]; congr 1; omega)

theorem wpAnyH_effects0 (es : List (Nat × Tmp)) (need : List (List Nat)) (F : Nat → Value → World → Prop) (bk : Nat → Value → Option Nat) (listed : Array Bool) (a0 : Act) (fuel : Nat) (w : World)
  (hd : es.Pairwise (fun x y => x.2 ≠ y.2)) (hready : readyOk md ops listed es need = true)
  (hF : ∀ k u w w', F k u w → Below w.heap.size w w' → F k u w') (hS : S w)
  (hstep : ∀ k e v w1, k < es.length → es[k]? = some e → S w1 → Below w.heap.size w w1 → (∀ n ∈ need.getD k [], F n (v n) w1) →
   wpOp P ops Q e.1 (fun a' w' => ∃ u, a' = (putAll a0 es v 0).put (some e.2) u ∧ S w' ∧ Below w1.heap.size w1 w' ∧ F k u w' ∧ ∀ b, bk k u = some b → w1.heap.size ≤ b ∧ b < w'.heap.size) (putAll a0 es v 0) w1)
  (hend : ∀ v w1, S w1 → EffInv F bk w es.length (List.replicate es.length true) v w1 → wpAnyH P md ops Q S fuel (setBits listed es (List.replicate es.length true)) (putAll a0 es v 0) w1) :
  wpAnyH P md ops Q S (fuel + es.length) listed a0 w := by
 have h0 : putAll a0 es (fun k => a0.tmps.getD ((es[k]?).getD (0, 0)).2 undef) 0 = a0 := putAll_same es a0 _ 0 (fun j e he => by rw [Nat.zero_add, he]; rfl)
 have h := wpAnyH_effects es need F bk w listed a0 fuel hd hready hF hstep hend es.length (List.replicate es.length false) (fun k => a0.tmps.getD ((es[k]?).getD (0, 0)).2 undef) w (by simp) (by simp [List.countP_replicate]) (by unfold closedB; rw [List.all_eq_true]; intro j hj; have := List.mem_range.mp hj; simp [List.getD, this]) hS
  ⟨Below.refl _ _, fun k hk h => by simp [List.getD, hk] at h, fun k b hk h => by simp [List.getD, hk] at h, fun j k b hj hk _ h => by simp [List.getD, hj] at h⟩
 rw [setBits_none, h0] at h
 exact h
end
end Go.Proofs.YthabgljdndbphaaGreatDoor
