/- Frames by what is known of their slots: a function of whatever width is walked over the slots that matter. -/
import Derived.Test.YthabgljdndbphaaGreatDoorQPKM01
import Derived.OrdersHeld
import Derived.BigCall
import Derived.Calls
import Derived.Scope
import Derived.Deep.LoopGhost
import Derived.Deep.RegionHeld

set_option linter.unusedVariables false
set_option linter.unusedSimpArgs false
namespace Go.Proofs.YthabgljdndbphaaGreatDoor

/-- What a slot holds, by a list of what is known. -/
def lookF : List (Nat × Value) → Nat → Option Value
 | [], _ => none
 | (d, v) :: l, t => bif Nat.beq d t then some v else lookF l t

theorem beq_no {a b : Nat} (h : a ≠ b) : Nat.beq a b = false := by
 cases e : Nat.beq a b
 ·
  rfl
 ·
  exact absurd (Nat.eq_of_beq_eq_true e) h

structure FrF (N : Nat) (ds : List Deferred) (e : List (Nat × Value)) (a : Act) : Prop where
 size : a.tmps.size = N
 defers : a.defers = ds
 slot : ∀ t v, lookF e t = some v → a.tmps[t]? = some v

/-- A slot that is written. -/
def consD (d : Option Tmp) (v : Value) (e : List (Nat × Value)) : List (Nat × Value) := match d with
 | some d => (d, v) :: e
 | none => e

def dstB (N : Nat) (d : Option Tmp) : Bool := match d with
 | some d => decide (d < N)
 | none => true

theorem FrF.put {N : Nat} {ds : List Deferred} {e : List (Nat × Value)} {a : Act} (h : FrF N ds e a) (d : Option Tmp) (v : Value) (hd : dstB N d = true) : FrF N ds (consD d v e) (a.put d v) := by
 cases d with
 | none => exact h
 | some d =>
  have hdN : d < N := by simpa [dstB] using hd
  refine ⟨by simp [Act.put, h.size], h.defers, fun t u hu => ?_⟩
  simp only [consD, lookF] at hu
  show (a.tmps.setIfInBounds d v)[t]? = some u
  by_cases e : d = t
  ·
   subst e
   simp only [Nat.beq_refl, cond_true, Option.some.injEq] at hu
   subst hu
   simp [h.size, hdN]
  ·
   have : Nat.beq d t = false := beq_no e
   rw [this] at hu
   simp only [cond_false] at hu
   rw [Array.getElem?_setIfInBounds_ne e]
   exact h.slot t u hu

/-- What is known, cut down. -/
def SubF (e : List (Nat × Value)) : List (Nat × Value) → Prop
 | [] => True
 | (d, v) :: r => lookF e d = some v ∧ SubF e r

theorem SubF.look {e : List (Nat × Value)} : ∀ {r : List (Nat × Value)} {t : Nat} {v : Value}, SubF e r → lookF r t = some v → lookF e t = some v
 | [], _, _, _, h => by cases h
 | (d, u) :: r, t, v, hs, h => by
  simp only [lookF] at h
  by_cases ht : d = t
  ·
   subst ht
   simp only [Nat.beq_refl, cond_true, Option.some.injEq] at h
   rw [hs.1, h]
  ·
   have : Nat.beq d t = false := beq_no ht
   rw [this] at h
   simp only [cond_false] at h
   exact SubF.look hs.2 h

theorem FrF.sub {N : Nat} {ds : List Deferred} {e e' : List (Nat × Value)} {a : Act} (h : FrF N ds e a) (hs : SubF e e') : FrF N ds e' a :=
 ⟨h.size, h.defers, fun t v hv => h.slot t v (hs.look hv)⟩

def slotV (e : List (Nat × Value)) : Operand → Option Value
 | .tmp t => lookF e t
 | .const v => some v
 | .global g => some (.pointer (some ⟨g, 0, none⟩))
 | .func f => some (.func (.func f) #[] #[])

theorem FrF.eval {N : Nat} {ds : List Deferred} {e : List (Nat × Value)} {a : Act} (h : FrF N ds e a) {x : Operand} {v : Value} (hx : slotV e x = some v) : a.eval x = v := by
 cases x with
 | tmp t =>
  show a.tmps.getD t undef = v
  have := h.slot t v hx
  simp [this]
 | const u =>
  simp only [slotV, Option.some.injEq] at hx
  exact hx
 | global g =>
  simp only [slotV, Option.some.injEq] at hx
  exact hx
 | func f =>
  simp only [slotV, Option.some.injEq] at hx
  exact hx

/-- What some operands are. -/
def LooksF (e : List (Nat × Value)) : List Operand → List Value → Prop
 | [], [] => True
 | x :: xs, v :: vs => slotV e x = some v ∧ LooksF e xs vs
 | _, _ => False

theorem FrF.evals {N : Nat} {ds : List Deferred} {e : List (Nat × Value)} {a : Act} (h : FrF N ds e a) : ∀ (xs : List Operand) (vs : List Value), LooksF e xs vs → xs.map a.eval = vs
 | [], [], _ => rfl
 | x :: xs, v :: vs, hl => by rw [List.map_cons, h.eval hl.1, h.evals xs vs hl.2]
 | [], _ :: _, hl => hl.elim
 | _ :: _, [], hl => hl.elim

/-- Whether the guard lets the operation by; none: not known. -/
def wantedF (ops : Array Oper) (e : List (Nat × Value)) : Option (Nat × Bool) → Option Bool
 | none => some true
 | some (j, want) => match (ops[j]?).bind (·.dst) with
  | none => none
  | some t => match lookF e t with
   | some (.bool b) => some (b == want)
   | some _ => some false
   | none => none

theorem FrF.wanted {N : Nat} {ds : List Deferred} {e : List (Nat × Value)} {a : Act} (h : FrF N ds e a) {ops : Array Oper} {o : Oper} {b : Bool} (hw : wantedF ops e o.guard = some b) : Region.wanted o (yielded ops a.tmps) = b := by
 unfold Region.wanted
 cases hg : o.guard with
 | none =>
  rw [hg] at hw
  simp only [wantedF, Option.some.injEq] at hw
  simp [hw]
 | some jw =>
  obtain ⟨j, want⟩ := jw
  rw [hg] at hw
  simp only [wantedF] at hw
  cases ht : (ops[j]?).bind (·.dst) with
  | none => simp [ht] at hw
  | some t =>
   simp only [ht] at hw
   cases e1 : lookF e t with
   | none => simp [e1] at hw
   | some v =>
    have hv := h.slot t v e1
    simp only [e1] at hw
    simp only [yielded, ht, Option.bind_some, hv]
    cases v with
    | bool c =>
     simp only [Option.some.injEq] at hw
     rw [← hw]
     cases c <;> cases want <;> rfl
    | _ =>
     simp only [Option.some.injEq] at hw
     rw [← hw]
     rfl

/-- What is taken, each in its turn: exactly in the world at hand (true), or in whatever world (false). -/
def Chain (P : Program) (N : Nat) (ds : List Deferred) (w : World) (ops : Array Oper) (K : List (Nat × Value) → Prop) : List (Nat × Bool) → List (Nat × Value) → Prop
 | [], e => K e
 | n :: r, e => ∃ o v, ops[n.1]? = some o ∧ dstB N o.dst = true ∧
  ((wantedF ops e o.guard = some true ∧ ∀ a, FrF N ds e a → ∀ w', (n.2 = true → w' = w) → (execOp a.eval o).run P w' = .ok (.value v) w') ∨ (wantedF ops e o.guard = some false ∧ v = undef)) ∧
  Chain P N ds w ops K r (consD o.dst v e)

section
variable {P : Program} {ops : Array Oper} {Q : Exit → Act → World → Prop} {md : Region.Mode} {N : Nat} {ds : List Deferred} {e : List (Nat × Value)} {w : World} {a : Act} {KC : List (Nat × Value) → Prop}

theorem Chain.step {n : Nat} {x : Bool} {r : List (Nat × Bool)} {o : Oper} {v : Value} {d : Nat} (ho : ops[n]? = some o) (hd : o.dst = some d) (hN : Nat.blt d N = true) (hw : wantedF ops e o.guard = some true)
  (hv : ∀ a, FrF N ds e a → ∀ w', (x = true → w' = w) → (execOp a.eval o).run P w' = .ok (.value v) w') (h : Chain P N ds w ops KC r ((d, v) :: e)) : Chain P N ds w ops KC ((n, x) :: r) e :=
 ⟨o, v, ho, by rw [hd]; simpa [dstB, Nat.blt_eq] using hN, Or.inl ⟨hw, hv⟩, by rw [hd]; exact h⟩


theorem Chain.skip {n : Nat} {x : Bool} {r : List (Nat × Bool)} {o : Oper} {d : Nat} (ho : ops[n]? = some o) (hd : o.dst = some d) (hN : Nat.blt d N = true) (hw : wantedF ops e o.guard = some false)
  (h : Chain P N ds w ops KC r ((d, undef) :: e)) : Chain P N ds w ops KC ((n, x) :: r) e :=
 ⟨o, undef, ho, by rw [hd]; simpa [dstB, Nat.blt_eq] using hN, Or.inr ⟨hw, rfl⟩, by rw [hd]; exact h⟩


theorem run_move (x : Operand) (u : Value) (o : Oper) (hop : o.op = .move x ∨ o.op = .assign x) (hx : a.eval x = u) : (execOp a.eval o).run P w = .ok (.value u) w := by
 unfold execOp
 rcases hop with h | h <;> simp only [h, hx] <;> rfl

/-- A value is moved. -/
theorem Chain.move {n : Nat} {x : Bool} {r : List (Nat × Bool)} {o : Oper} {v : Value} {d : Nat} {y : Operand} (ho : ops[n]? = some o) (hd : o.dst = some d) (hN : Nat.blt d N = true) (hw : wantedF ops e o.guard = some true) (hop : o.op = .move y)
  (hv : slotV e y = some v) (h : Chain P N ds w ops KC r ((d, v) :: e)) : Chain P N ds w ops KC ((n, x) :: r) e :=
 Chain.step ho hd hN hw (fun _ hF _ _ => run_move y v o (Or.inl hop) (hF.eval hv)) h

theorem Chain.assign {n : Nat} {x : Bool} {r : List (Nat × Bool)} {o : Oper} {v : Value} {d : Nat} {y : Operand} (ho : ops[n]? = some o) (hd : o.dst = some d) (hN : Nat.blt d N = true) (hw : wantedF ops e o.guard = some true) (hop : o.op = .assign y)
  (hv : slotV e y = some v) (h : Chain P N ds w ops KC r ((d, v) :: e)) : Chain P N ds w ops KC ((n, x) :: r) e :=
 Chain.step ho hd hN hw (fun _ hF _ _ => run_move y v o (Or.inr hop) (hF.eval hv)) h

/-! ### The same laws with the slots that an operation reads named: short to write -/
/-! ### Shorter still: where an operation stands and what it writes is one computation -/
def goS (ops : Array Oper) (N : Nat) (e : List (Nat × Value)) (n : Nat) : Option (Oper × Nat) := match ops[n]? with
 | none => none
 | some o => match o.dst with
  | none => none
  | some d => match wantedF ops e o.guard with
   | some true => bif Nat.blt d N then some (o, d) else none
   | _ => none
theorem goS_spec {ops : Array Oper} {N : Nat} {e : List (Nat × Value)} {n : Nat} {o : Oper} {d : Nat} (h : goS ops N e n = some (o, d)) : ops[n]? = some o ∧ o.dst = some d ∧ Nat.blt d N = true ∧ wantedF ops e o.guard = some true := by
 unfold goS at h
 split at h
 ·
  cases h
 rename_i o1 h1
 split at h
 ·
  cases h
 rename_i d1 h2
 split at h
 ·
  rename_i h3
  cases hb : Nat.blt d1 N with
  | false => rw [hb] at h; cases h
  | true =>
   rw [hb] at h
   cases h
   exact ⟨h1, h2, hb, h3⟩
 ·
  cases h
theorem zm {n : Nat} {x : Bool} {r : List (Nat × Bool)} {o : Oper} {v : Value} {d : Nat} {y : Operand} (hg : goS ops N e n = some (o, d)) (hop : o.op = .move y)
  (hv : slotV e y = some v) (h : Chain P N ds w ops KC r ((d, v) :: e)) : Chain P N ds w ops KC ((n, x) :: r) e := Chain.move (goS_spec hg).1 (goS_spec hg).2.1 (goS_spec hg).2.2.1 (goS_spec hg).2.2.2 hop hv h
theorem za {n : Nat} {x : Bool} {r : List (Nat × Bool)} {o : Oper} {v : Value} {d : Nat} {y : Operand} (hg : goS ops N e n = some (o, d)) (hop : o.op = .assign y)
  (hv : slotV e y = some v) (h : Chain P N ds w ops KC r ((d, v) :: e)) : Chain P N ds w ops KC ((n, x) :: r) e := Chain.assign (goS_spec hg).1 (goS_spec hg).2.1 (goS_spec hg).2.2.1 (goS_spec hg).2.2.2 hop hv h
def goX (ops : Array Oper) (N : Nat) (e : List (Nat × Value)) (n : Nat) : Option (Oper × Nat) := match ops[n]? with
 | none => none
 | some o => match o.dst with
  | none => none
  | some d => match wantedF ops e o.guard with
   | some false => bif Nat.blt d N then some (o, d) else none
   | _ => none
theorem goX_spec {ops : Array Oper} {N : Nat} {e : List (Nat × Value)} {n : Nat} {o : Oper} {d : Nat} (h : goX ops N e n = some (o, d)) : ops[n]? = some o ∧ o.dst = some d ∧ Nat.blt d N = true ∧ wantedF ops e o.guard = some false := by
 unfold goX at h
 split at h
 ·
  cases h
 rename_i o1 h1
 split at h
 ·
  cases h
 rename_i d1 h2
 split at h
 ·
  rename_i h3
  cases hb : Nat.blt d1 N with
  | false => rw [hb] at h; cases h
  | true =>
   rw [hb] at h
   cases h
   exact ⟨h1, h2, hb, h3⟩
 ·
  cases h
theorem zx {n : Nat} {x : Bool} {r : List (Nat × Bool)} {o : Oper} {d : Nat} (hg : goX ops N e n = some (o, d)) (h : Chain P N ds w ops KC r ((d, undef) :: e)) : Chain P N ds w ops KC ((n, x) :: r) e :=
 Chain.skip (goX_spec hg).1 (goX_spec hg).2.1 (goX_spec hg).2.2.1 (goX_spec hg).2.2.2 h

/-- What is kept of what is known. -/
def keepF (e : List (Nat × Value)) : List Nat → Option (List (Nat × Value))
 | [] => some []
 | t :: r => match lookF e t with
  | none => none
  | some v => match keepF e r with
   | none => none
   | some q => some ((t, v) :: q)
theorem keepF_sub {e : List (Nat × Value)} : ∀ {ts : List Nat} {e' : List (Nat × Value)}, keepF e ts = some e' → SubF e e'
 | [], _, h => by cases h; trivial
 | t :: r, e', h => by
  unfold keepF at h
  split at h
  ·
   cases h
  rename_i v hv
  split at h
  ·
   cases h
  rename_i q hq
  cases h
  exact ⟨hv, keepF_sub hq⟩
theorem FrF.kp (ts : List Nat) {e' : List (Nat × Value)} (h : FrF N ds e a) (hk : keepF e ts = some e') : FrF N ds e' a := h.sub (keepF_sub hk)

/-! ### A region that draws its order -/
section late
variable {S : World → Prop} {L : List Nat}

/-- Whatever order is picked from here on; behind a late operation nothing more is asked. -/
def wpAnyM (P : Program) (md : Region.Mode) (ops : Array Oper) (Q : Exit → Act → World → Prop) (S : World → Prop) (L : List Nat) : Nat → Array Bool → Act → World → Prop
 | 0, listed, a, w => Region.ready md ops listed = [] ∧ Q .normal a w
 | fuel + 1, listed, a, w =>
  (Region.ready md ops listed = [] → Q .normal a w) ∧
  ∀ i ∈ Region.ready md ops listed, wpOp P ops Q i (fun a' w' => (L.contains i = true → wpAny P md ops Q fuel (listed.setIfInBounds i true) a' w') ∧ (L.contains i = false → (S w → S w') ∧ wpAnyM P md ops Q S L fuel (listed.setIfInBounds i true) a' w')) a w

theorem wpAny_of_M : ∀ (fuel : Nat) (listed : Array Bool) (a : Act) (w : World), wpAnyM P md ops Q S L fuel listed a w → wpAny P md ops Q fuel listed a w
 | 0, _, _, _, h => h
 | fuel + 1, _, _, _, h => ⟨h.1, fun i hi => wpOp_mono (fun a' w' h' => by
   cases hc : L.contains i
   ·
    exact wpAny_of_M fuel _ a' w' (h'.2 hc).2
   ·
    exact h'.1 hc) (h.2 i hi)⟩

theorem wpAnyM_first {C : World → Prop} {i : Nat} {oi : Oper} {v : Value} (D : Nat → Prop) (hi : ops[i]? = some oi) (hLi : L.contains i = false) (hsel : ∀ (j : Nat) (o : Oper) cs b, ops[j]? = some o → o.op ≠ .select cs b)
  (hQ : ∀ c a w, Q (.panic c) (a.put oi.dst v) w → Q (.panic c) a w)
  (hD : ∀ d, D d → ∃ od, ops[d]? = some od ∧ ∃ e ∈ od.after, Region.binds md e = true ∧ (e.on = i ∨ D e.on))
  (hL : ∀ j, ¬ D j → L.contains j = true → ∀ w, C w) (hC : ∀ j w w', ¬ D j → L.contains j = false → (S w → S w') → C w → C w') :
  ∀ (fuel : Nat) (listed : Array Bool) (a : Act) (w : World),
   (∀ j oj, ops[j]? = some oj → j ≠ i → listed.getD j true = false → (∀ e ∈ oj.after, Region.binds md e = true → e.on ≠ i) → oi.apart ops oj = true) →
   (∀ d, D d → listed.getD d true = false) →
   i ∈ Region.ready md ops listed → YieldsIf P ops C oi v a → C w →
   wpAnyM P md ops Q S L fuel (listed.setIfInBounds i true) (a.put oi.dst v) w → wpAnyM P md ops Q S L (fuel + 1) listed a w := by
 intro fuel
 induction fuel with
 | zero =>
  intro listed a w _ _ hr hy hS H
  refine ⟨fun h => (by rw [h] at hr; cases hr), fun j hj => ?_⟩
  by_cases hji : j = i
  ·
   subst hji; exact hy.wpOp hi hS ⟨fun h => (by rw [hLi] at h; cases h), fun _ => ⟨fun h => h, H⟩⟩
  ·
   have := ready_mono hj hji
   rw [H.1] at this
   cases this
 | succ fuel ih =>
  intro listed a w hfree hun0 hr hy hS H
  refine ⟨fun h => (by rw [h] at hr; cases hr), fun j hj => ?_⟩
  by_cases hji : j = i
  ·
   subst hji; exact hy.wpOp hi hS ⟨fun h => (by rw [hLi] at h; cases h), fun _ => ⟨fun h => h, H⟩⟩
  ·
   have h1 := H.2 j (ready_mono hj hji)
   obtain ⟨hjun, oj, hoj, hall⟩ := mem_ready.1 hj
   have hcon : ∀ k, listed.getD k true = false → listed.getD k false = true → False := fun k h0 h1 => by
    rcases Nat.lt_or_ge k listed.size with h' | h'
    ·
     simp [h'] at h0 h1; rw [h0] at h1; cases h1
    ·
     simp [Array.getElem?_eq_none h'] at h1
   have hnot : ∀ e ∈ oj.after, Region.binds md e = true → e.on ≠ i := fun e he hb heq => by
    have h1 := hall e he hb
    rw [heq] at h1
    exact hcon i (mem_ready.1 hr).1 h1
   have hjD : ¬ D j := fun hd => by
    obtain ⟨od, hod, e, he, hb, h2⟩ := hD j hd
    rw [hoj] at hod
    obtain rfl : oj = od := by simpa using hod
    have h3 := hall e he hb
    rcases h2 with h2 | h2
    ·
     exact hnot e he hb h2
    ·
     exact hcon _ (hun0 _ h2) h3
   have h2 := wpOp_putIf hoj (hfree j oj hoj hji hjun hnot) (fun cs b => hsel i oi cs b hi) (fun cs b => hsel j oj cs b hoj) hQ hy h1
   have hfree' : ∀ k ok, ops[k]? = some ok → k ≠ i → (listed.setIfInBounds j true).getD k true = false →
     (∀ e ∈ ok.after, Region.binds md e = true → e.on ≠ i) → oi.apart ops ok = true := fun k ok hk hki hun hno => by
    refine hfree k ok hk hki ?_ hno
    by_cases hjk : j = k
    ·
     subst hjk; exact hjun
    ·
     rw [getD_set_ne true hjk] at hun; exact hun
   have hr' := ready_mono hr (Ne.symm hji)
   have hcomm := Array.setIfInBounds_comm (xs := listed) true true hji
   refine wpOp_mono (fun a' w' h3 => ⟨fun hl => ?_, fun hl => ?_⟩) h2
   ·
    have hy' : Yields P ops oi v a' := h3.1.imp (fun ⟨x, y⟩ => ⟨x, fun w => y w (hL j hjD hl w)⟩) id
    refine wpAny_first hi hsel hQ fuel (listed.setIfInBounds j true) a' w' hfree' hr' hy' ?_
    have := h3.2.1 hl
    rw [← hcomm] at this
    exact this
   ·
    have h4 := h3.2.2 hl
    refine ⟨h4.1, ih (listed.setIfInBounds j true) a' w' hfree' (fun d hd => ?_) hr' h3.1 (hC j w w' hjD hl h4.1 hS) ?_⟩
    ·
     rw [getD_set_ne true (fun (e : j = d) => hjD (by rw [e]; exact hd))]; exact hun0 d hd
    ·
     have h5 := h4.2
     rw [← hcomm] at h5
     exact h5
end late

/-- The operations that wait for operation i. -/
def descF (md : Region.Mode) (ops : Array Oper) (i : Nat) : List Nat :=
 (List.range ops.size).foldl (fun D j => match ops[j]? with
  | some o => if o.after.any (fun e => Region.binds md e && (e.on == i || D.contains e.on)) then j :: D else D
  | none => D) []

/-- The late operations wait for operation i. -/
def lateOkF (md : Region.Mode) (ops : Array Oper) (listed : Array Bool) (L : List Nat) (i : Nat) : Bool :=
 L.all (fun l => (descF md ops i).contains l) && (descF md ops i).all fun d => !listed.getD d true && match ops[d]? with
  | some o => o.after.any (fun e => Region.binds md e && (e.on == i || (descF md ops i).contains e.on))
  | none => false

/-- The plan may be followed. -/
def planF (md : Region.Mode) (ops : Array Oper) (L : List Nat) : List (Nat × Bool) → Array Bool → Bool
 | [], listed => (Region.ready md ops listed).all fun i => L.contains i
 | n :: r, listed => !L.contains n.1 && (Region.free md ops listed n.1 && ((Region.ready md ops listed).contains n.1 && ((!n.2 || lateOkF md ops listed L n.1) && planF md ops L r (listed.setIfInBounds n.1 true))))

def afterF : List (Nat × Bool) → Array Bool → Array Bool
 | [], listed => listed
 | n :: r, listed => afterF r (listed.setIfInBounds n.1 true)

theorem wpAnyM_of_any {L : List Nat} {S : World → Prop} : ∀ {fuel : Nat} {listed : Array Bool}, ((Region.ready md ops listed).all fun i => L.contains i) = true → wpAny P md ops Q fuel listed a w → wpAnyM P md ops Q S L fuel listed a w
 | 0, _, _, h => h
 | fuel + 1, listed, hr, h => ⟨h.1, fun i hi => wpOp_mono (fun a' w' h' => ⟨fun _ => h', fun hc => by
   have := List.all_eq_true.1 hr i hi
   rw [hc] at this
   cases this⟩) (h.2 i hi)⟩

theorem chain_run {L : List Nat} {fuel : Nat} (hs : Region.noSelect ops = true) (hQ : ∀ c a d v w, Q (.panic c) (Act.put a d v) w → Q (.panic c) a w) :
  ∀ (plan : List (Nat × Bool)) (listed : Array Bool) (e : List (Nat × Value)) (a : Act), planF md ops L plan listed = true → FrF N ds e a →
   Chain P N ds w ops (fun e' => ∀ a', FrF N ds e' a' → wpAny P md ops Q fuel (afterF plan listed) a' w) plan e → wpAnyM P md ops Q (fun w' => w' = w) L (fuel + plan.length) listed a w
 | [], _, _, _, hp, hF, h => wpAnyM_of_any hp (h _ hF)
 | (n, x) :: r, listed, e, a, hp, hF, ⟨o, v, ho, hdst, hy, h⟩ => by
  simp only [planF, Bool.and_eq_true, Bool.not_eq_true', Bool.or_eq_true] at hp
  obtain ⟨h0, h1, h2, h3, h4⟩ := hp
  have hrest := chain_run hs hQ r (listed.setIfInBounds n true) _ _ h4 (hF.put o.dst v hdst) h
  have hr : n ∈ Region.ready md ops listed := by simpa using h2
  cases x with
  | false =>
   refine wpAnyM_first (C := fun _ => True) (fun _ => False) ho h0 (Region.noSelect_spec hs) (fun c a w => hQ c a o.dst v w) (fun _ h => h.elim) (fun _ _ _ _ => trivial) (fun _ _ _ _ _ _ _ => trivial) _ listed a w (Region.free_spec ho h1) (fun _ h => h.elim) hr ?_ trivial hrest
   rcases hy with ⟨hw, hv⟩ | ⟨hw, rfl⟩
   ·
    exact Or.inl ⟨hF.wanted hw, fun w' _ => hv a hF w' (fun h => by cases h)⟩
   ·
    exact Or.inr ⟨hF.wanted hw, rfl⟩
  | true =>
   have hl : lateOkF md ops listed L n = true := by
    rcases h3 with h3 | h3
    ·
     cases h3
    ·
     exact h3
   unfold lateOkF at hl
   simp only [Bool.and_eq_true, List.all_eq_true, List.contains_eq_mem, decide_eq_true_eq] at hl
   refine wpAnyM_first (C := fun w' => w' = w) (fun k => k ∈ descF md ops n) ho h0 (Region.noSelect_spec hs) (fun c a w => hQ c a o.dst v w) (fun d hd => ?_) (fun j hj h => ?_) (fun j w1 w2 _ _ h hw => ?_) _ listed a w (Region.free_spec ho h1) (fun d hd => ?_) hr ?_ rfl hrest
   ·
    have := (hl.2 d hd).2
    cases ho : ops[d]? with
    | none => rw [ho] at this; cases this
    | some o =>
     rw [ho] at this
     obtain ⟨e, he, hb⟩ := Array.any_eq_true'.1 this
     simp only [Bool.and_eq_true, Bool.or_eq_true, beq_iff_eq, decide_eq_true_eq] at hb
     exact ⟨o, rfl, e, he, hb.1, hb.2⟩
   ·
    rw [List.contains_eq_mem, decide_eq_true_eq] at h
    exact absurd (hl.1 j h) hj
   ·
    exact h hw
   ·
    simpa using (hl.2 d hd).1
   ·
    rcases hy with ⟨hw, hv⟩ | ⟨hw, rfl⟩
    ·
     exact Or.inl ⟨hF.wanted hw, fun w' hw' => hv a hF w' (fun _ => hw')⟩
    ·
     exact Or.inr ⟨hF.wanted hw, rfl⟩

/-- Some operations of a region that draws are taken, one after the other. -/
theorem any_chain {fuel : Nat} (plan : List (Nat × Bool)) (L : List Nat) {fuel' : Nat} {listed : Array Bool} (hf : fuel' = fuel + plan.length) (hs : Region.noSelect ops = true) (hp : planF md ops L plan listed = true) (hF : FrF N ds e a)
  (hQ : ∀ c a d v w, Q (.panic c) (Act.put a d v) w → Q (.panic c) a w)
  (h : ∀ K : List (Nat × Value) → Prop, (∀ e', (∀ a', FrF N ds e' a' → wpAny P md ops Q fuel (afterF plan listed) a' w) → K e') → Chain P N ds w ops K plan e) : wpAny P md ops Q fuel' listed a w := by
 subst hf
 exact wpAny_of_M _ _ _ _ (chain_run hs hQ plan listed e a hp hF (h _ fun _ hK => hK))

/-- The one that is ready. -/
theorem any_one {n fuel : Nat} {listed : Array Bool} (hr : Region.ready md ops listed = [n]) (h : wpOp P ops Q n (wpAny P md ops Q fuel (listed.setIfInBounds n true)) a w) : wpAny P md ops Q (fuel + 1) listed a w :=
 wpAny_all hr (by simp) fun i hi => by
  simp only [List.mem_singleton] at hi
  subst hi
  exact h

theorem any_two {n m fuel : Nat} {listed : Array Bool} (hr : Region.ready md ops listed = [n, m]) (h1 : wpOp P ops Q n (wpAny P md ops Q fuel (listed.setIfInBounds n true)) a w) (h2 : wpOp P ops Q m (wpAny P md ops Q fuel (listed.setIfInBounds m true)) a w) : wpAny P md ops Q (fuel + 1) listed a w :=
 wpAny_all hr (by simp) fun i hi => by
  simp only [List.mem_cons, List.not_mem_nil, or_false] at hi
  rcases hi with rfl | rfl
  ·
   exact h1
  ·
   exact h2

theorem any_end {fuel : Nat} {listed : Array Bool} (hr : Region.ready md ops listed = []) (h : Q .normal a w) : wpAny P md ops Q fuel listed a w := wpAny_done hr h fuel

/-- A region that draws begins. -/
theorem region_any {id : Nat} (hm : P.follows .mixedOrders = true) (h : wpAny P .any ops Q ops.size (Array.replicate ops.size false) a w.drew) : (Code.region id ops true).wp P Q a w := wp_region_any hm h

/-! ### A region in the text's order -/
theorem chain_seq {rest : List Nat} : ∀ (plan : List (Nat × Bool)) (e : List (Nat × Value)) (a : Act), FrF N ds e a →
   Chain P N ds w ops (fun e' => ∀ a', FrF N ds e' a' → wpOps P ops Q rest a' w) plan e → wpOps P ops Q (plan.map (·.1) ++ rest) a w
 | [], _, _, hF, h => h _ hF
 | (n, x) :: r, e, a, hF, ⟨o, v, ho, hdst, hy, h⟩ => by
  have hrest := chain_seq r _ _ (hF.put o.dst v hdst) h
  rw [List.map_cons, List.cons_append, wpOps_cons]
  have hyi : YieldsIf P ops (fun w' => w' = w) o v a := by
   rcases hy with ⟨hw, hv⟩ | ⟨hw, rfl⟩
   ·
    exact Or.inl ⟨hF.wanted hw, fun w' hw' => hv a hF w' (fun _ => hw')⟩
   ·
    exact Or.inr ⟨hF.wanted hw, rfl⟩
  exact hyi.wpOp ho rfl hrest

theorem seq_chain (plan : List (Nat × Bool)) (rest : List Nat) {all : List Nat} (ha : all = plan.map (·.1) ++ rest) (hF : FrF N ds e a)
  (h : ∀ K : List (Nat × Value) → Prop, (∀ e', (∀ a', FrF N ds e' a' → wpOps P ops Q rest a' w) → K e') → Chain P N ds w ops K plan e) : wpOps P ops Q all a w := by
 subst ha
 exact chain_seq plan e a hF (h _ fun _ hK => hK)

theorem seq_one {n : Nat} {rest : List Nat} (h : wpOp P ops Q n (wpOps P ops Q rest) a w) : wpOps P ops Q (n :: rest) a w := by
 rw [wpOps_cons]
 exact h

theorem seq_end (h : Q .normal a w) : wpOps P ops Q [] a w := h

theorem region_seq {id : Nat} {l : List Nat} (hl : List.range ops.size = l) (h : wpOps P ops Q l a w) : (Code.region id ops false).wp P Q a w := wp_region (by rw [hl]; exact h)


/-! ### A region whole: the steps find themselves -/
def opSl (o : Oper) : List Nat := o.op.operands.toList.filterMap fun x => match x with
 | .tmp t => some t
 | _ => none
def goT (ops : Array Oper) (N : Nat) (e : List (Nat × Value)) (n : Nat) : Option (Oper × Nat × List (Nat × Value)) := match goS ops N e n with
 | none => none
 | some (o, d) => match keepF e (opSl o) with
  | none => none
  | some us => some (o, d, us)
theorem goT_spec {n : Nat} {o : Oper} {d : Nat} {us : List (Nat × Value)} (h : goT ops N e n = some (o, d, us)) : goS ops N e n = some (o, d) ∧ keepF e (opSl o) = some us := by
 unfold goT at h
 split at h
 ·
  cases h
 rename_i o1 d1 h1
 split at h
 ·
  cases h
 rename_i us1 h2
 cases h
 exact ⟨h1, h2⟩
/-- What the slots hold, ahead of a proposition. -/
def HvI (a : Act) (G : Prop) : List (Nat × Value) → Prop
 | [] => G
 | (i, u) :: r => a.tmps[i]? = some u → HvI a G r
theorem HvI_of {G : Prop} (hF : FrF N ds e a) : ∀ {ts : List Nat} {us : List (Nat × Value)}, keepF e ts = some us → HvI a G us → G
 | [], us, hk, h => by cases hk; exact h
 | t :: r, us, hk, h => by
  unfold keepF at hk
  split at hk
  ·
   cases hk
  rename_i v hv
  split at hk
  ·
   cases hk
  rename_i q hq
  cases hk
  exact HvI_of hF hq (h (hF.slot _ _ hv))
/-! Each operation of a plan bears its kind: 0 not wanted, 1 moved, 2 assigned, 3 to 7 by so many slots in the world at hand, 8 to 12 in whatever world. -/
def p2 : List (Nat × Bool × Nat) → List (Nat × Bool)
 | [] => []
 | p :: r => (p.1, p.2.1) :: p2 r
def tk : Nat → List Nat → List (Nat × Bool × Nat)
 | _, [] => []
 | i, k :: r => (i, true, k) :: tk (i + 1) r
def dm : List Nat → List (Nat × Bool × Nat)
 | [] => []
 | c :: r => (c / 32, c / 16 % 2 == 1, c % 16) :: dm r
structure ChT (P : Program) (N : Nat) (ds : List Deferred) (w : World) (ops : Array Oper) (K : List (Nat × Value) → Prop) (l : List (Nat × Bool × Nat)) (e : List (Nat × Value)) : Prop where
 run : Chain P N ds w ops K (p2 l) e
structure ChK (P : Program) (N : Nat) (ds : List Deferred) (w : World) (ops : Array Oper) (K : List (Nat × Value) → Prop) (k n : Nat) (x : Bool) (r : List (Nat × Bool × Nat)) (e : List (Nat × Value)) : Prop where
 run : Chain P N ds w ops K ((n, x) :: p2 r) e
variable {TC : List (Nat × Bool × Nat)}
theorem zzk (k : Nat) {n : Nat} {x : Bool} (h : ChK P N ds w ops KC k n x TC e) : ChT P N ds w ops KC ((n, x, k) :: TC) e := ⟨h.run⟩
theorem zzz (h : KC e) : ChT P N ds w ops KC [] e := ⟨h⟩
theorem zzx {n k : Nat} {x : Bool} {o : Oper} {d : Nat} (hg : goX ops N e n = some (o, d)) (h : ChT P N ds w ops KC TC ((d, undef) :: e)) : ChK P N ds w ops KC k n x TC e := ⟨zx hg h.run⟩
theorem zzm {n k : Nat} {x : Bool} {o : Oper} {v : Value} {d : Nat} {y : Operand} (hg : goS ops N e n = some (o, d)) (hop : o.op = .move y) (hv : slotV e y = some v) (h : ChT P N ds w ops KC TC ((d, v) :: e)) : ChK P N ds w ops KC k n x TC e := ⟨zm hg hop hv h.run⟩
theorem zza {n k : Nat} {x : Bool} {o : Oper} {v : Value} {d : Nat} {y : Operand} (hg : goS ops N e n = some (o, d)) (hop : o.op = .assign y) (hv : slotV e y = some v) (h : ChT P N ds w ops KC TC ((d, v) :: e)) : ChK P N ds w ops KC k n x TC e := ⟨za hg hop hv h.run⟩
theorem zztn {n k : Nat} {o : Oper} {v : Value} {d : Nat} {us : List (Nat × Value)} (hg : goT ops N e n = some (o, d, us)) (h : ChT P N ds w ops KC TC ((d, v) :: e)) (hv : ∀ a : Act, HvI a ((execOp a.eval o).run P w = .ok (.value v) w) us := by intro _;simp only [HvI];intros;go_simp<;>with_reducible rfl) : ChK P N ds w ops KC k n true TC e :=
 ⟨Chain.step (goS_spec (goT_spec hg).1).1 (goS_spec (goT_spec hg).1).2.1 (goS_spec (goT_spec hg).1).2.2.1 (goS_spec (goT_spec hg).1).2.2.2 (fun a hF w' hx => by cases hx rfl; exact HvI_of hF (goT_spec hg).2 (hv a)) h.run⟩
theorem zzwn {n k : Nat} {x : Bool} {o : Oper} {v : Value} {d : Nat} {us : List (Nat × Value)} (hg : goT ops N e n = some (o, d, us)) (h : ChT P N ds w ops KC TC ((d, v) :: e)) (hv : ∀ (a : Act) (w' : World), HvI a ((execOp a.eval o).run P w' = .ok (.value v) w') us := by intro _ _;simp only [HvI];intros;go_simp<;>with_reducible rfl) : ChK P N ds w ops KC k n x TC e :=
 ⟨Chain.step (goS_spec (goT_spec hg).1).1 (goS_spec (goT_spec hg).1).2.1 (goS_spec (goT_spec hg).1).2.2.1 (goS_spec (goT_spec hg).1).2.2.2 (fun a hF w' _ => HvI_of hF (goT_spec hg).2 (hv a w')) h.run⟩
theorem zzt0 {n k : Nat} {o : Oper} {v : Value} {d : Nat} (hg : goT ops N e n = some (o, d, [])) (h : ChT P N ds w ops KC TC ((d, v) :: e)) (hv : ∀ a : Act, (execOp a.eval o).run P w = .ok (.value v) w := by intros;go_simp<;>with_reducible rfl) : ChK P N ds w ops KC k n true TC e := zztn hg h hv
theorem zzw0 {n k : Nat} {x : Bool} {o : Oper} {v : Value} {d : Nat} (hg : goT ops N e n = some (o, d, [])) (h : ChT P N ds w ops KC TC ((d, v) :: e)) (hv : ∀ (a : Act) (w' : World), (execOp a.eval o).run P w' = .ok (.value v) w' := by intros;go_simp<;>with_reducible rfl) : ChK P N ds w ops KC k n x TC e := zzwn hg h hv
theorem zzt1 {n k : Nat} {i0 : Nat} {u0 : Value} {o : Oper} {v : Value} {d : Nat} (hg : goT ops N e n = some (o, d, [(i0, u0)])) (h : ChT P N ds w ops KC TC ((d, v) :: e)) (hv : ∀ a : Act, a.tmps[i0]? = some u0 → (execOp a.eval o).run P w = .ok (.value v) w := by intros;go_simp<;>with_reducible rfl) : ChK P N ds w ops KC k n true TC e := zztn hg h hv
theorem zzw1 {n k : Nat} {x : Bool} {i0 : Nat} {u0 : Value} {o : Oper} {v : Value} {d : Nat} (hg : goT ops N e n = some (o, d, [(i0, u0)])) (h : ChT P N ds w ops KC TC ((d, v) :: e)) (hv : ∀ (a : Act) (w' : World), a.tmps[i0]? = some u0 → (execOp a.eval o).run P w' = .ok (.value v) w' := by intros;go_simp<;>with_reducible rfl) : ChK P N ds w ops KC k n x TC e := zzwn hg h hv
theorem zzt2 {n k : Nat} {i0 i1 : Nat} {u0 u1 : Value} {o : Oper} {v : Value} {d : Nat} (hg : goT ops N e n = some (o, d, [(i0, u0), (i1, u1)])) (h : ChT P N ds w ops KC TC ((d, v) :: e)) (hv : ∀ a : Act, a.tmps[i0]? = some u0 → a.tmps[i1]? = some u1 → (execOp a.eval o).run P w = .ok (.value v) w := by intros;go_simp<;>with_reducible rfl) : ChK P N ds w ops KC k n true TC e := zztn hg h hv
theorem zzw2 {n k : Nat} {x : Bool} {i0 i1 : Nat} {u0 u1 : Value} {o : Oper} {v : Value} {d : Nat} (hg : goT ops N e n = some (o, d, [(i0, u0), (i1, u1)])) (h : ChT P N ds w ops KC TC ((d, v) :: e)) (hv : ∀ (a : Act) (w' : World), a.tmps[i0]? = some u0 → a.tmps[i1]? = some u1 → (execOp a.eval o).run P w' = .ok (.value v) w' := by intros;go_simp<;>with_reducible rfl) : ChK P N ds w ops KC k n x TC e := zzwn hg h hv
theorem zzt3 {n k : Nat} {i0 i1 i2 : Nat} {u0 u1 u2 : Value} {o : Oper} {v : Value} {d : Nat} (hg : goT ops N e n = some (o, d, [(i0, u0), (i1, u1), (i2, u2)])) (h : ChT P N ds w ops KC TC ((d, v) :: e)) (hv : ∀ a : Act, a.tmps[i0]? = some u0 → a.tmps[i1]? = some u1 → a.tmps[i2]? = some u2 → (execOp a.eval o).run P w = .ok (.value v) w := by intros;go_simp<;>with_reducible rfl) : ChK P N ds w ops KC k n true TC e := zztn hg h hv
theorem zzw3 {n k : Nat} {x : Bool} {i0 i1 i2 : Nat} {u0 u1 u2 : Value} {o : Oper} {v : Value} {d : Nat} (hg : goT ops N e n = some (o, d, [(i0, u0), (i1, u1), (i2, u2)])) (h : ChT P N ds w ops KC TC ((d, v) :: e)) (hv : ∀ (a : Act) (w' : World), a.tmps[i0]? = some u0 → a.tmps[i1]? = some u1 → a.tmps[i2]? = some u2 → (execOp a.eval o).run P w' = .ok (.value v) w' := by intros;go_simp<;>with_reducible rfl) : ChK P N ds w ops KC k n x TC e := zzwn hg h hv
/-- The chain ends at these slots. -/
abbrev EndAt (E : List (Nat × Value)) (e' : List (Nat × Value)) : Prop := e' = E
theorem Chain.imp {K K' : List (Nat × Value) → Prop} (hk : ∀ e, K e → K' e) : ∀ {plan : List (Nat × Bool)} {e : List (Nat × Value)}, Chain P N ds w ops K plan e → Chain P N ds w ops K' plan e
 | [], _, h => hk _ h
 | _ :: _, _, ⟨o, v, h1, h2, h3, h4⟩ => ⟨o, v, h1, h2, h3, Chain.imp hk h4⟩
section whole
variable {id : Nat} {c : Code} {E e2 : List (Nat × Value)}
/-- A region in the text's order, up to its first effect. -/
theorem zrp (plan rest : List Nat) (h2 : ∀ a', FrF N ds E a' → wpOps P ops Q rest a' w) (h1 : ChT P N ds w ops (EndAt E) (tk 0 plan) e := by repeat (first | (refine zzz ?_; exact rfl) | (refine zzk 1 ?_; refine zzm rfl rfl rfl ?_) | (refine zzk 0 ?_; refine zzx rfl ?_) | (refine zzk 4 ?_; refine zzt1 rfl ?_) | (refine zzk 5 ?_; refine zzt2 rfl ?_) | (refine zzk 2 ?_; refine zza rfl rfl rfl ?_) | (refine zzk 9 ?_; refine zzw1 rfl ?_) | (refine zzk 10 ?_; refine zzw2 rfl ?_) | (refine zzk 6 ?_; refine zzt3 rfl ?_) | (refine zzk 11 ?_; refine zzw3 rfl ?_) | (refine zzk 3 ?_; refine zzt0 rfl ?_) | (refine zzk 8 ?_; refine zzw0 rfl ?_) | (refine zzk 7 ?_; refine zztn rfl ?_) | (refine zzk 12 ?_; refine zzwn rfl ?_))) (hl : List.range ops.size = (p2 (tk 0 plan)).map (·.1) ++ rest := by kernel_rfl) (hF : FrF N ds e a) : (Code.region id ops false).wp P Q a w :=
 region_seq hl (seq_chain _ rest rfl hF fun K hK => Chain.imp (fun e' he => hK e' (by rw [he]; exact h2)) h1.run)
/-- .. whole. -/
theorem zrg (plan ks : List Nat) (h2 : ∀ a', FrF N ds e2 a' → Q .normal a' w) (h1 : ChT P N ds w ops (EndAt E) (tk 0 plan) e := by repeat (first | (refine zzz ?_; exact rfl) | (refine zzk 1 ?_; refine zzm rfl rfl rfl ?_) | (refine zzk 0 ?_; refine zzx rfl ?_) | (refine zzk 4 ?_; refine zzt1 rfl ?_) | (refine zzk 5 ?_; refine zzt2 rfl ?_) | (refine zzk 2 ?_; refine zza rfl rfl rfl ?_) | (refine zzk 9 ?_; refine zzw1 rfl ?_) | (refine zzk 10 ?_; refine zzw2 rfl ?_) | (refine zzk 6 ?_; refine zzt3 rfl ?_) | (refine zzk 11 ?_; refine zzw3 rfl ?_) | (refine zzk 3 ?_; refine zzt0 rfl ?_) | (refine zzk 8 ?_; refine zzw0 rfl ?_) | (refine zzk 7 ?_; refine zztn rfl ?_) | (refine zzk 12 ?_; refine zzwn rfl ?_))) (hk : keepF E ks = some e2 := by exact rfl) (hl : List.range ops.size = (p2 (tk 0 plan)).map (·.1) ++ [] := by kernel_rfl) (hF : FrF N ds e a) : (Code.region id ops false).wp P Q a w :=
 zrp plan [] (fun a' hF' => seq_end (h2 a' (hF'.sub (keepF_sub hk)))) h1 hl hF
/-- .. in a sequence. -/
theorem zrs (plan ks : List Nat) (h2 : ∀ a', FrF N ds e2 a' → c.wp P Q a' w) (h1 : ChT P N ds w ops (EndAt E) (tk 0 plan) e := by repeat (first | (refine zzz ?_; exact rfl) | (refine zzk 1 ?_; refine zzm rfl rfl rfl ?_) | (refine zzk 0 ?_; refine zzx rfl ?_) | (refine zzk 4 ?_; refine zzt1 rfl ?_) | (refine zzk 5 ?_; refine zzt2 rfl ?_) | (refine zzk 2 ?_; refine zza rfl rfl rfl ?_) | (refine zzk 9 ?_; refine zzw1 rfl ?_) | (refine zzk 10 ?_; refine zzw2 rfl ?_) | (refine zzk 6 ?_; refine zzt3 rfl ?_) | (refine zzk 11 ?_; refine zzw3 rfl ?_) | (refine zzk 3 ?_; refine zzt0 rfl ?_) | (refine zzk 8 ?_; refine zzw0 rfl ?_) | (refine zzk 7 ?_; refine zztn rfl ?_) | (refine zzk 12 ?_; refine zzwn rfl ?_))) (hk : keepF E ks = some e2 := by exact rfl) (hl : List.range ops.size = (p2 (tk 0 plan)).map (·.1) ++ [] := by kernel_rfl) (hF : FrF N ds e a) : ((Code.region id ops false).seq c).wp P Q a w :=
 wp_seq (zrg plan ks h2 h1 hk hl hF)
/-- What is left of a region behind an effect, up to the next one. -/
theorem zrc {all : List Nat} (i : Nat) (plan rest : List Nat) (h2 : ∀ a', FrF N ds E a' → wpOps P ops Q rest a' w) (h1 : ChT P N ds w ops (EndAt E) (tk i plan) e := by repeat (first | (refine zzz ?_; exact rfl) | (refine zzk 1 ?_; refine zzm rfl rfl rfl ?_) | (refine zzk 0 ?_; refine zzx rfl ?_) | (refine zzk 4 ?_; refine zzt1 rfl ?_) | (refine zzk 5 ?_; refine zzt2 rfl ?_) | (refine zzk 2 ?_; refine zza rfl rfl rfl ?_) | (refine zzk 9 ?_; refine zzw1 rfl ?_) | (refine zzk 10 ?_; refine zzw2 rfl ?_) | (refine zzk 6 ?_; refine zzt3 rfl ?_) | (refine zzk 11 ?_; refine zzw3 rfl ?_) | (refine zzk 3 ?_; refine zzt0 rfl ?_) | (refine zzk 8 ?_; refine zzw0 rfl ?_) | (refine zzk 7 ?_; refine zztn rfl ?_) | (refine zzk 12 ?_; refine zzwn rfl ?_))) (ha : all = (p2 (tk i plan)).map (·.1) ++ rest := by exact rfl) (hF : FrF N ds e a) : wpOps P ops Q all a w :=
 seq_chain _ rest ha hF fun K hK => Chain.imp (fun e' he => hK e' (by rw [he]; exact h2)) h1.run
/-- .. up to the end. -/
theorem zre {all : List Nat} (i : Nat) (plan ks : List Nat) (h2 : ∀ a', FrF N ds e2 a' → Q .normal a' w) (h1 : ChT P N ds w ops (EndAt E) (tk i plan) e := by repeat (first | (refine zzz ?_; exact rfl) | (refine zzk 1 ?_; refine zzm rfl rfl rfl ?_) | (refine zzk 0 ?_; refine zzx rfl ?_) | (refine zzk 4 ?_; refine zzt1 rfl ?_) | (refine zzk 5 ?_; refine zzt2 rfl ?_) | (refine zzk 2 ?_; refine zza rfl rfl rfl ?_) | (refine zzk 9 ?_; refine zzw1 rfl ?_) | (refine zzk 10 ?_; refine zzw2 rfl ?_) | (refine zzk 6 ?_; refine zzt3 rfl ?_) | (refine zzk 11 ?_; refine zzw3 rfl ?_) | (refine zzk 3 ?_; refine zzt0 rfl ?_) | (refine zzk 8 ?_; refine zzw0 rfl ?_) | (refine zzk 7 ?_; refine zztn rfl ?_) | (refine zzk 12 ?_; refine zzwn rfl ?_))) (hk : keepF E ks = some e2 := by exact rfl) (ha : all = (p2 (tk i plan)).map (·.1) ++ [] := by exact rfl) (hF : FrF N ds e a) : wpOps P ops Q all a w :=
 zrc i plan [] (fun a' hF' => seq_end (h2 a' (hF'.sub (keepF_sub hk)))) h1 ha hF
/-- Operations of a region that draws. -/
theorem zra {fuel fuel' : Nat} {listed : Array Bool} (plan L : List Nat) (h2 : ∀ a', FrF N ds E a' → wpAny P md ops Q fuel (afterF (p2 (dm plan)) listed) a' w) (h1 : ChT P N ds w ops (EndAt E) (dm plan) e := by repeat (first | (refine zzz ?_; exact rfl) | (refine zzk 1 ?_; refine zzm rfl rfl rfl ?_) | (refine zzk 0 ?_; refine zzx rfl ?_) | (refine zzk 4 ?_; refine zzt1 rfl ?_) | (refine zzk 5 ?_; refine zzt2 rfl ?_) | (refine zzk 2 ?_; refine zza rfl rfl rfl ?_) | (refine zzk 9 ?_; refine zzw1 rfl ?_) | (refine zzk 10 ?_; refine zzw2 rfl ?_) | (refine zzk 6 ?_; refine zzt3 rfl ?_) | (refine zzk 11 ?_; refine zzw3 rfl ?_) | (refine zzk 3 ?_; refine zzt0 rfl ?_) | (refine zzk 8 ?_; refine zzw0 rfl ?_) | (refine zzk 7 ?_; refine zztn rfl ?_) | (refine zzk 12 ?_; refine zzwn rfl ?_))) (hf : fuel' = fuel + (p2 (dm plan)).length := by rfl) (hs : Region.noSelect ops = true := by kernel_rfl) (hp : planF md ops L (p2 (dm plan)) listed = true := by kernel_rfl)
  (hQ : ∀ c a d v w, Q (.panic c) (Act.put a d v) w → Q (.panic c) a w := by intro _ _ d _ _ h; cases d <;> exact h) (hF : FrF N ds e a) : wpAny P md ops Q fuel' listed a w :=
 any_chain _ L hf hs hp hF hQ (fun K hK => Chain.imp (fun e' he => hK e' (by rw [he]; exact h2)) h1.run)
/-- .. all that are left. -/
theorem zrb {fuel fuel' : Nat} {listed : Array Bool} (plan ks : List Nat) (h2 : ∀ a', FrF N ds e2 a' → Q .normal a' w) (h1 : ChT P N ds w ops (EndAt E) (dm plan) e := by repeat (first | (refine zzz ?_; exact rfl) | (refine zzk 1 ?_; refine zzm rfl rfl rfl ?_) | (refine zzk 0 ?_; refine zzx rfl ?_) | (refine zzk 4 ?_; refine zzt1 rfl ?_) | (refine zzk 5 ?_; refine zzt2 rfl ?_) | (refine zzk 2 ?_; refine zza rfl rfl rfl ?_) | (refine zzk 9 ?_; refine zzw1 rfl ?_) | (refine zzk 10 ?_; refine zzw2 rfl ?_) | (refine zzk 6 ?_; refine zzt3 rfl ?_) | (refine zzk 11 ?_; refine zzw3 rfl ?_) | (refine zzk 3 ?_; refine zzt0 rfl ?_) | (refine zzk 8 ?_; refine zzw0 rfl ?_) | (refine zzk 7 ?_; refine zztn rfl ?_) | (refine zzk 12 ?_; refine zzwn rfl ?_))) (hk : keepF E ks = some e2 := by exact rfl) (hf : fuel' = fuel + (p2 (dm plan)).length := by rfl) (hs : Region.noSelect ops = true := by kernel_rfl) (hp : planF md ops [] (p2 (dm plan)) listed = true := by kernel_rfl)
  (hQ : ∀ c a d v w, Q (.panic c) (Act.put a d v) w → Q (.panic c) a w := by intro _ _ d _ _ h; cases d <;> exact h) (hr : Region.ready md ops (afterF (p2 (dm plan)) listed) = [] := by kernel_rfl) (hF : FrF N ds e a) : wpAny P md ops Q fuel' listed a w :=
 zra plan [] (fun a' hF' => any_end (fuel := fuel) hr (h2 a' (hF'.sub (keepF_sub hk)))) h1 hf hs hp hQ hF
end whole

/-! ### One operation that turns the world -/
/-- A function with a body of its own. -/
def plainB (P : Program) (f : FuncId) : Bool := match P.funcs[f]? with
 | some fn => !(fn.name == "runtime.NumGoroutine") && !fn.body.isNone
 | none => false

theorem run_plain {f : FuncId} (h : plainB P f = true) (args : Array Value) (w : World) : (callFunc f args).run P w = .ok (.enter f args) w := by
 unfold plainB at h
 unfold callFunc
 cases hf : P.funcs[f]? with
 | none => rw [hf] at h; cases h
 | some fn =>
  rw [hf] at h
  simp only [Bool.and_eq_true, Bool.not_eq_true'] at h
  have hprog : Sem.run P program w = .ok P w := rfl
  simp only [Sem.run_bind, hprog, Result.andThen_ok, hf, h.1, h.2, Bool.false_eq_true, if_false, Sem.run_pure]

section one
variable {KA : Act → World → Prop} {n : Nat}

theorem wpOp_of {o : Oper} (ho : ops[n]? = some o) (hF : FrF N ds e a) (hw : wantedF ops e o.guard = some true) (h : o.wp P a w KA Q) : wpOp P ops Q n KA a w := by
 unfold wpOp
 simp only [ho]
 rw [if_pos (hF.wanted hw)]
 exact Or.inl h


/-- It yields a value and leaves another world. -/
theorem op_eff {o : Oper} {d : Option Tmp} {v : Value} {w' : World} (ho : ops[n]? = some o) (hd : o.dst = d) (hN : dstB N d = true) (hF : FrF N ds e a) (hw : wantedF ops e o.guard = some true)
  (hv : ∀ a, FrF N ds e a → (execOp a.eval o).run P w = .ok (.value v) w') (h : ∀ a', FrF N ds (consD d v e) a' → KA a' w') : wpOp P ops Q n KA a w := by
 subst hd
 refine wpOp_of ho hF hw ?_
 unfold Oper.wp
 rw [hv a hF]
 exact h _ (hF.put _ _ hN)

/-- It leaves another world, and no value. -/
theorem op_unit {o : Oper} {w' : World} (ho : ops[n]? = some o) (hd : o.dst = none) (hF : FrF N ds e a) (hw : wantedF ops e o.guard = some true)
  (hv : ∀ a, FrF N ds e a → (execOp a.eval o).run P w = .ok .skip w') (h : ∀ a', FrF N ds e a' → KA a' w') : wpOp P ops Q n KA a w := by
 refine wpOp_of ho hF hw ?_
 unfold Oper.wp
 rw [hv a hF]
 show KA (a.put o.dst undef) w'
 rw [hd]
 exact h _ hF

/-! .. and for effects. -/

/-- A call is deferred. -/
theorem op_defer {o : Oper} {dc : Deferred} (ho : ops[n]? = some o) (hd : o.dst = none) (hF : FrF N ds e a) (hw : wantedF ops e o.guard = some true)
  (hv : ∀ a, FrF N ds e a → (execOp a.eval o).run P w = .ok (.defer dc) w) (h : ∀ a', FrF N (dc :: ds) e a' → KA a' w) : wpOp P ops Q n KA a w := by
 refine wpOp_of ho hF hw ?_
 unfold Oper.wp
 rw [hv a hF]
 show KA ({ a with defers := dc :: a.defers }.put o.dst undef) w
 rw [hd]
 exact h _ ⟨hF.size, by rw [← hF.defers]; rfl, hF.slot⟩


/-- An append, by its run. -/
theorem op_append {o : Oper} {d : Option Tmp} {s x : Operand} {t ty : TypeId} {v u res : Value} {w' : World} (ho : ops[n]? = some o) (hop : o.op = .call { callee := .builtin .append, args := #[s, x], argTypes := #[t, t] }) (hty : o.type = ty) (hd : o.dst = d) (hN : dstB N d = true) (hF : FrF N ds e a) (hw : wantedF ops e o.guard = some true)
  (hs : slotV e s = some v) (hx : slotV e x = some u) (hr : (Builtin.append_ #[t, t] ty #[v, u]).run P w = .ok res w') (h : ∀ a', FrF N ds (consD d res e) a' → KA a' w') : wpOp P ops Q n KA a w := by
 refine op_eff ho hd hN hF hw (v := res) (w' := w') (fun a hF => ?_) h
 unfold execOp
 simp only [hop, hty, resolve, invoke, builtin, Sem.run_bind, Sem.run_pure, Result.andThen_ok, List.map_toArray, List.map_cons, List.map_nil, hF.eval hs, hF.eval hx, hr]

/-- It enters a function. -/
theorem op_enter {o : Oper} {d : Option Tmp} {f : FuncId} {vals : Array Value} {w1 : World} (ho : ops[n]? = some o) (hd : o.dst = d) (hN : dstB N d = true) (hF : FrF N ds e a) (hw : wantedF ops e o.guard = some true)
  (hv : ∀ a, FrF N ds e a → (execOp a.eval o).run P w = .ok (.enter f vals) w1)
  (h : ∀ K : Ending → World → Prop, (∀ v w', (∀ a', FrF N ds (consD d v e) a' → KA a' w') → K (.returned v) w') → Calls P f vals w1 K) : wpOp P ops Q n KA a w := by
 subst hd
 refine wpOp_of ho hF hw ?_
 unfold Oper.wp
 rw [hv a hF]
 show Calls P f vals w1 _
 refine h _ (fun v w' hK => ?_)
 exact hK _ (hF.put _ _ hN)

/-- It calls a function that the text names. -/
theorem op_call {d : Option Tmp} {f : FuncId} {args : List Operand} {ats : Array TypeId} {ty : TypeId} {pos : String} {after : Array Edge} {g : Option (Nat × Bool)} (vals : List Value)
  (ho : ops[n]? = some { dst := d, op := .call { callee := .value (.func f), args := args.toArray, argTypes := ats }, type := ty, pos := pos, after := after, guard := g }) (hN : dstB N d = true) (hF : FrF N ds e a) (hw : wantedF ops e g = some true)
  (hpl : plainB P f = true) (hv : LooksF e args vals)
  (h : ∀ K : Ending → World → Prop, (∀ v w', (∀ a', FrF N ds (consD d v e) a' → KA a' w') → K (.returned v) w') → Calls P f vals.toArray w K) : wpOp P ops Q n KA a w := by
 refine op_enter (o := { dst := d, op := .call { callee := .value (.func f), args := args.toArray, argTypes := ats }, type := ty, pos := pos, after := after, guard := g }) ho rfl hN hF hw (f := f) (vals := vals.toArray) (w1 := w) (fun a hF => ?_) h
 rw [execOp_call_go]
 have hp := run_plain hpl vals.toArray w
 have h1 : (#[] ++ args.toArray.map a.eval ++ #[] : Array Value) = vals.toArray := by
  rw [← hF.evals args vals hv]
  simp
 rw [h1]
 exact hp
def valsF (e : List (Nat × Value)) : List Operand → Option (List Value)
 | [] => some []
 | x :: r => match slotV e x with
  | none => none
  | some v => match valsF e r with
   | none => none
   | some q => some (v :: q)
theorem valsF_look {e : List (Nat × Value)} : ∀ {xs : List Operand} {vs : List Value}, valsF e xs = some vs → LooksF e xs vs
 | [], _, h => by cases h; trivial
 | x :: r, vs, h => by
  unfold valsF at h
  split at h
  ·
   cases h
  rename_i v hv
  split at h
  ·
   cases h
  rename_i q hq
  cases h
  exact ⟨hv, valsF_look hq⟩
def goC (ops : Array Oper) (N : Nat) (e : List (Nat × Value)) (n : Nat) : Option (Option Tmp × FuncId × List Value) := match ops[n]? with
 | none => none
 | some o => match o.op with
  | .call { callee := .value (.func f), args := as, argTypes := _ } => match wantedF ops e o.guard with
   | some true => bif dstB N o.dst then (match valsF e as.toList with
    | none => none
    | some vs => some (o.dst, f, vs)) else none
   | _ => none
  | _ => none
/-- It calls a function; all that is wanted is found. -/
theorem zoc {d : Option Tmp} {f : FuncId} {vals : List Value} (h : ∀ K : Ending → World → Prop, (∀ v w', (∀ a', FrF N ds (consD d v e) a' → KA a' w') → K (.returned v) w') → Calls P f vals.toArray w K) (hg : goC ops N e n = some (d, f, vals) := by exact rfl) (hpl : plainB P f = true := by kernel_rfl) (hF : FrF N ds e a) : wpOp P ops Q n KA a w := by
 unfold goC at hg
 split at hg
 ·
  cases hg
 rename_i o ho
 split at hg
 ·
  rename_i f' as ats hop
  split at hg
  ·
   rename_i hw
   cases hN : dstB N o.dst with
   | false => rw [hN] at hg; cases hg
   | true =>
    rw [hN] at hg
    simp only [cond_true] at hg
    split at hg
    ·
     cases hg
    rename_i vs hvs
    cases hg
    obtain ⟨od, oop, oty, opos, oaf, og⟩ := o
    subst hop
    exact op_call (args := as.toList) vals (by simpa using ho) hN hF hw hpl (valsF_look hvs) h
  ·
   cases hg
 ·
  cases hg
theorem zos {d : Option Tmp} {f : FuncId} {vals : List Value} {rest : List Nat} (h : ∀ K : Ending → World → Prop, (∀ v w', (∀ a', FrF N ds (consD d v e) a' → wpOps P ops Q rest a' w') → K (.returned v) w') → Calls P f vals.toArray w K) (hg : goC ops N e n = some (d, f, vals) := by exact rfl) (hpl : plainB P f = true := by kernel_rfl) (hF : FrF N ds e a) : wpOps P ops Q (n :: rest) a w :=
 seq_one (zoc h hg hpl hF)
def goU (ops : Array Oper) (e : List (Nat × Value)) (n : Nat) : Option (Oper × List (Nat × Value)) := match ops[n]? with
 | none => none
 | some o => match o.dst with
  | some _ => none
  | none => match wantedF ops e o.guard with
   | some true => match keepF e (opSl o) with
    | none => none
    | some us => some (o, us)
   | _ => none
theorem goU_spec {n : Nat} {o : Oper} {us : List (Nat × Value)} (h : goU ops e n = some (o, us)) : ops[n]? = some o ∧ o.dst = none ∧ wantedF ops e o.guard = some true ∧ keepF e (opSl o) = some us := by
 unfold goU at h
 split at h
 ·
  cases h
 rename_i o1 h1
 split at h
 ·
  cases h
 rename_i h2
 split at h
 ·
  rename_i h3
  split at h
  ·
   cases h
  rename_i us1 h4
  cases h
  exact ⟨h1, h2, h3, h4⟩
 ·
  cases h
theorem qen {o : Oper} {d : Nat} {us : List (Nat × Value)} {v : Value} {w' : World} (hg : goT ops N e n = some (o, d, us)) (hv : ∀ a : Act, HvI a ((execOp a.eval o).run P w = .ok (.value v) w') us) (h : ∀ a', FrF N ds ((d, v) :: e) a' → KA a' w') (hF : FrF N ds e a) : wpOp P ops Q n KA a w := by
 obtain ⟨h1, h2, h3, h4⟩ := goS_spec (goT_spec hg).1
 exact op_eff (d := some d) h1 h2 (by simpa [dstB, Nat.blt_eq] using h3) hF h4 (fun a hF => HvI_of hF (goT_spec hg).2 (hv a)) h
theorem qun {o : Oper} {us : List (Nat × Value)} {w' : World} (hg : goU ops e n = some (o, us)) (hv : ∀ a : Act, HvI a ((execOp a.eval o).run P w = .ok .skip w') us) (h : ∀ a', FrF N ds e a' → KA a' w') (hF : FrF N ds e a) : wpOp P ops Q n KA a w := by
 obtain ⟨h1, h2, h3, h4⟩ := goU_spec hg
 exact op_unit h1 h2 hF h3 (fun a hF => HvI_of hF h4 (hv a)) h
theorem qe0 {o : Oper} {d : Nat} {v : Value} {w' : World} (h : ∀ a', FrF N ds ((d, v) :: e) a' → KA a' w') (hg : goT ops N e n = some (o, d, []) := by exact rfl) (hv : ∀ a : Act, (execOp a.eval o).run P w = .ok (.value v) w' := by intros;go_simp<;>first|with_reducible rfl|(constructor<;>with_reducible rfl)) (hF : FrF N ds e a) : wpOp P ops Q n KA a w := qen hg hv h hF
theorem qe1 {i0 : Nat} {u0 : Value} {o : Oper} {d : Nat} {v : Value} {w' : World} (h : ∀ a', FrF N ds ((d, v) :: e) a' → KA a' w') (hg : goT ops N e n = some (o, d, [(i0, u0)]) := by exact rfl) (hv : ∀ a : Act, a.tmps[i0]? = some u0 → (execOp a.eval o).run P w = .ok (.value v) w' := by intros;go_simp<;>first|with_reducible rfl|(constructor<;>with_reducible rfl)) (hF : FrF N ds e a) : wpOp P ops Q n KA a w := qen hg hv h hF
theorem qu1 {i0 : Nat} {u0 : Value} {o : Oper} {w' : World} (h : ∀ a', FrF N ds e a' → KA a' w') (hg : goU ops e n = some (o, [(i0, u0)]) := by exact rfl) (hv : ∀ a : Act, a.tmps[i0]? = some u0 → (execOp a.eval o).run P w = .ok .skip w' := by intros;go_simp<;>with_reducible rfl) (hF : FrF N ds e a) : wpOp P ops Q n KA a w := qun hg hv h hF
theorem qe2 {i0 i1 : Nat} {u0 u1 : Value} {o : Oper} {d : Nat} {v : Value} {w' : World} (h : ∀ a', FrF N ds ((d, v) :: e) a' → KA a' w') (hg : goT ops N e n = some (o, d, [(i0, u0), (i1, u1)]) := by exact rfl) (hv : ∀ a : Act, a.tmps[i0]? = some u0 → a.tmps[i1]? = some u1 → (execOp a.eval o).run P w = .ok (.value v) w' := by intros;go_simp<;>first|with_reducible rfl|(constructor<;>with_reducible rfl)) (hF : FrF N ds e a) : wpOp P ops Q n KA a w := qen hg hv h hF
theorem qu2 {i0 i1 : Nat} {u0 u1 : Value} {o : Oper} {w' : World} (h : ∀ a', FrF N ds e a' → KA a' w') (hg : goU ops e n = some (o, [(i0, u0), (i1, u1)]) := by exact rfl) (hv : ∀ a : Act, a.tmps[i0]? = some u0 → a.tmps[i1]? = some u1 → (execOp a.eval o).run P w = .ok .skip w' := by intros;go_simp<;>with_reducible rfl) (hF : FrF N ds e a) : wpOp P ops Q n KA a w := qun hg hv h hF
theorem qe3 {i0 i1 i2 : Nat} {u0 u1 u2 : Value} {o : Oper} {d : Nat} {v : Value} {w' : World} (h : ∀ a', FrF N ds ((d, v) :: e) a' → KA a' w') (hg : goT ops N e n = some (o, d, [(i0, u0), (i1, u1), (i2, u2)]) := by exact rfl) (hv : ∀ a : Act, a.tmps[i0]? = some u0 → a.tmps[i1]? = some u1 → a.tmps[i2]? = some u2 → (execOp a.eval o).run P w = .ok (.value v) w' := by intros;go_simp<;>first|with_reducible rfl|(constructor<;>with_reducible rfl)) (hF : FrF N ds e a) : wpOp P ops Q n KA a w := qen hg hv h hF
theorem qu3 {i0 i1 i2 : Nat} {u0 u1 u2 : Value} {o : Oper} {w' : World} (h : ∀ a', FrF N ds e a' → KA a' w') (hg : goU ops e n = some (o, [(i0, u0), (i1, u1), (i2, u2)]) := by exact rfl) (hv : ∀ a : Act, a.tmps[i0]? = some u0 → a.tmps[i1]? = some u1 → a.tmps[i2]? = some u2 → (execOp a.eval o).run P w = .ok .skip w' := by intros;go_simp<;>with_reducible rfl) (hF : FrF N ds e a) : wpOp P ops Q n KA a w := qun hg hv h hF
/-- It calls a function value: a closure. -/
theorem op_callv {d : Option Tmp} {f : FuncId} {x : Operand} {args : List Operand} {ats : Array TypeId} {ty : TypeId} {pos : String} {after : Array Edge} {g : Option (Nat × Bool)} (vals first cap : List Value)
  (ho : ops[n]? = some { dst := d, op := .call { callee := .value x, args := args.toArray, argTypes := ats }, type := ty, pos := pos, after := after, guard := g }) (hN : dstB N d = true) (hF : FrF N ds e a) (hw : wantedF ops e g = some true)
  (hx : slotV e x = some (.func (.func f) first.toArray cap.toArray)) (hpl : plainB P f = true) (hv : LooksF e args vals)
  (h : ∀ K : Ending → World → Prop, (∀ v w', (∀ a', FrF N ds (consD d v e) a' → KA a' w') → K (.returned v) w') → Calls P f (first ++ vals ++ cap).toArray w K) : wpOp P ops Q n KA a w := by
 refine op_enter (o := { dst := d, op := .call { callee := .value x, args := args.toArray, argTypes := ats }, type := ty, pos := pos, after := after, guard := g }) ho rfl hN hF hw (f := f) (vals := (first ++ vals ++ cap).toArray) (w1 := w) (fun a hF => ?_) h
 have hp := run_plain hpl (first ++ vals ++ cap).toArray w
 have h1 : (first.toArray ++ args.toArray.map a.eval ++ cap.toArray : Array Value) = (first ++ vals ++ cap).toArray := by
  rw [← hF.evals args vals hv]
  simp
 unfold execOp
 simp only [resolve, hF.eval hx, Deferred.ofValue, Sem.run_bind, Sem.run_pure, Result.andThen_ok, invoke, h1]
 exact hp
end one

/-! ### Code -/

theorem cond_yes {t : Nat} {x y : Code} (hF : FrF N ds e a) (hb : lookF e t = some (.bool true)) (h1 : x.wp P Q a w) : (Code.cond (.tmp t) x y).wp P Q a w :=
 wp_cond_true (hF.eval (x := .tmp t) hb) h1

theorem cond_no {t : Nat} {x y : Code} (hF : FrF N ds e a) (hb : lookF e t = some (.bool false)) (h1 : y.wp P Q a w) : (Code.cond (.tmp t) x y).wp P Q a w :=
 wp_cond_false (hF.eval (x := .tmp t) hb) h1

/-- A sequence, joined by what holds between. -/
theorem seq_cut {x y : Code} (R : Act → World → Prop) (h1 : ∀ K : Act → World → Prop, (∀ a' w', R a' w' → K a' w') → x.wp P (Exit.then K Q) a w) (h2 : ∀ a' w', R a' w' → y.wp P Q a' w') : (Code.seq x y).wp P Q a w :=
 wp_seq (wp_mono (h1 R fun _ _ h => h) fun e a' w' q => by
  cases e with
  | normal => exact h2 _ _ q
  | _ => exact q)

theorem then_ret {K : Act → World → Prop} {Q' : Exit → Act → World → Prop} : Exit.then K Q' .ret a w = Q' .ret a w := rfl
theorem block_ret {id : Nat} {Q' : Exit → Act → World → Prop} : Exit.inBlock id Q' .ret a w = Q' .ret a w := rfl
theorem goto_ret {Q' : Exit → Act → World → Prop} : Exit.noGoto Q' .ret a w = Q' .ret a w := rfl

/-- A loop with a number that every round lowers. -/
theorem loop_fr {c : Code} (I : Nat → Act → World → Prop) (n₀ : Nat) (h₀ : I n₀ a w)
  (round : ∀ n a w, I n a w → ∀ K : Act → World → Prop, (∀ n' a' w', n' < n → I n' a' w' → K a' w') → c.wp P (Exit.then K Q) a w) : (Code.loop c).wp P Q a w :=
 wp_loop_ghost I n₀ h₀ fun n a w h => round n a w h _ fun n' _ _ hn hI => ⟨n', hn, hI⟩

def argsF : Nat → List Value → List (Nat × Value)
 | _, [] => []
 | k, v :: vs => (k, v) :: argsF (k + 1) vs

theorem argsF_look : ∀ (k : Nat) (vs : List Value) (t : Nat) (v : Value), lookF (argsF k vs) t = some v → k ≤ t ∧ vs[t - k]? = some v
 | _, [], _, _, h => by cases h
 | k, u :: vs, t, v, h => by
  simp only [argsF, lookF] at h
  by_cases e : k = t
  ·
   subst e
   simp only [Nat.beq_refl, cond_true, Option.some.injEq] at h
   simp [h]
  ·
   have e2 : Nat.beq k t = false := beq_no e
   rw [e2] at h
   simp only [cond_false] at h
   obtain ⟨h1, h2⟩ := argsF_look (k + 1) vs t v h
   refine ⟨by omega, ?_⟩
   rw [show t - k = (t - (k + 1)) + 1 from by omega]
   simpa using h2

/-- A function is entered. -/
theorem enter_fr {f : FuncId} {fn : Func} {c : Code} (args : List Value) {R : Ending → World → Prop} (hf : P.funcs[f]? = some fn) (hb : fn.body = some c) (hN : fn.ntmps = N) (hl : Nat.ble args.length N = true)
  (h : ∀ a, FrF N [] (argsF 0 args) a → c.wp P (bodyPost P fn R) a w) : Calls P f args.toArray w R := by
 have hl' : args.length ≤ N := by simpa [Nat.ble_eq] using hl
 refine calls_of_wp hf hb (h _ ⟨?_, rfl, fun t v hv => ?_⟩)
 ·
  simp [hN]; omega
 ·
  obtain ⟨_, h2⟩ := argsF_look 0 args t v hv
  simp only [Nat.sub_zero] at h2
  have ht : t < args.length := by
   rcases Nat.lt_or_ge t args.length with h | h
   ·
    exact h
   ·
    rw [List.getElem?_eq_none h] at h2; cases h2
  rw [Array.getElem?_append_left (by simpa using ht)]
  simpa using h2

/-- What is returned. -/
def resF (e : List (Nat × Value)) : List ResultVar → List Value → Prop
 | [], [] => True
 | .tmp t :: r, v :: vs => lookF e t = some v ∧ resF e r vs
 | _, _ => False

def tupF : List Value → Value
 | [v] => v
 | vs => .tuple vs.toArray

theorem resF_run : ∀ (rs : List ResultVar) (vs : List Value), FrF N ds e a → resF e rs vs →
  ((rs.mapM fun r => match r with | .tmp t => pure (a.tmps.getD t undef) | .cell x t => do loadVar t (← asAddr (a.tmps.getD x undef)) : Sem (List Value))).run P w = Result.ok vs w
 | [], [], _, _ => rfl
 | .tmp t :: r, v :: vs, hF, h => by
  have hv := hF.slot t v h.1
  have ih := resF_run r vs hF h.2
  simp only [List.mapM_cons, Sem.run_bind, Sem.run_pure, Result.andThen_ok, ih]
  simp [hv]
 | [], _ :: _, _, h => h.elim
 | .tmp _ :: _, [], _, h => h.elim
 | .cell _ _ :: _, [], _, h => h.elim
 | .cell _ _ :: _, _ :: _, _, h => h.elim

theorem results_fr {fn : Func} {rs : List ResultVar} (hrs : fn.results = rs.toArray) (vs : List Value) (hF : FrF N ds e a) (h : resF e rs vs) : (results fn a.tmps).run P w = .ok (tupF vs) w := by
 unfold results
 rw [hrs]
 simp only [List.mapM_toArray, ← bind_pure_comp, Sem.run_bind]
 refine (congrArg (fun r : Result (List Value) => ((r.andThen fun a w' => Sem.run P (pure a.toArray) w').andThen fun a w' => Sem.run P (pure (if h : a.size = 1 then a[0] else Value.tuple a)) w')) (resF_run (P := P) (w := w) rs vs hF h)).trans ?_
 simp only [Result.andThen_ok, Sem.run_pure]
 match vs with
 | [] => rfl
 | [v] => rfl
 | v :: u :: t => simp [tupF]

/-- The function ends. -/
theorem ret_fr {fn : Func} {rs : List ResultVar} {R : Ending → World → Prop} (hrs : fn.results = rs.toArray) (vs : List Value) (hF : FrF N [] e a) (h : resF e rs vs) (hR : R (.returned (tupF vs)) w) : bodyPost P fn R .ret a w :=
 ⟨hF.defers, _, results_fr hrs vs hF h, hR⟩

def resL (e : List (Nat × Value)) : List ResultVar → Option (List Value)
 | [] => some []
 | .tmp t :: r => match lookF e t with
  | none => none
  | some v => match resL e r with
   | none => none
   | some q => some (v :: q)
 | _ => none
theorem resL_of {e : List (Nat × Value)} : ∀ {rs : List ResultVar} {vs : List Value}, resL e rs = some vs → resF e rs vs
 | [], _, h => by cases h; trivial
 | .tmp t :: r, vs, h => by
  unfold resL at h
  split at h
  ·
   cases h
  rename_i v hv
  split at h
  ·
   cases h
  rename_i q hq
  cases h
  exact ⟨hv, resL_of hq⟩
 | .cell _ _ :: _, _, h => by cases h
theorem zq {fn : Func} {vs : List Value} {R : Ending → World → Prop} (hR : R (.returned (tupF vs)) w) (hs : resL e fn.results.toList = some vs := by exact rfl) (hF : FrF N [] e a) : bodyPost P fn R .ret a w :=
 ret_fr (rs := fn.results.toList) (by simp) vs hF (resL_of hs) hR
end
end Go.Proofs.YthabgljdndbphaaGreatDoor
