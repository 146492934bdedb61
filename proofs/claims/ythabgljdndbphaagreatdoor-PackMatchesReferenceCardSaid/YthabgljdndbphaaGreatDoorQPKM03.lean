/- Frames by what is known of their slots: a result that lies in a variable; walks over frames: a drawn region whose reads go ahead of its effects, as long as a predicate on the world is kept; The first place where a test holds. -/
import Derived.Test.YthabgljdndbphaaGreatDoorQPKM01
import Derived.Test.YthabgljdndbphaaGreatDoorQPKM02

set_option linter.unusedVariables false
set_option linter.unusedSimpArgs false
namespace Go.Proofs.YthabgljdndbphaaGreatDoor
theorem ret_cell {P : Program} {N : Nat} {e : List (Nat × Value)} {w : World} {a : Act} {fn : Func} {s : Tmp} {t : TypeId} {ad : Addr} {v : Value} {R : Ending → World → Prop} (hrs : fn.results = #[.cell s t]) (hF : FrF N [] e a) (hs : lookF e s = some (.pointer (some ad))) (hl : (loadVar t ad).run P w = .ok v w) (hR : R (.returned v) w) : bodyPost P fn R .ret a w := by
 refine ⟨hF.defers, v, ?_, hR⟩
 have h := hF.slot s _ hs
 unfold results
 rw [hrs]
 simp [h, asAddr, hl]
end Go.Proofs.YthabgljdndbphaaGreatDoor

namespace Go.Proofs.YthabgljdndbphaaGreatDoor
open Go.RowKit

/-- The plan may be followed. -/
def planH (md : Region.Mode) (ops : Array Oper) : List Nat → Array Bool → Bool
 | [], _ => true
 | n :: r, listed => Region.free md ops listed n && ((Region.ready md ops listed).contains n && planH md ops r (listed.setIfInBounds n true))
def afterH : List Nat → Array Bool → Array Bool
 | [], listed => listed
 | n :: r, listed => afterH r (listed.setIfInBounds n true)

/-- What is taken, each in its turn, in whatever world with S. -/
def ChainH (P : Program) (N : Nat) (ds : List Deferred) (S : World → Prop) (ops : Array Oper) (K : List (Nat × Value) → Prop) : List Nat → List (Nat × Value) → Prop
 | [], e => K e
 | n :: r, e => ∃ o v, ops[n]? = some o ∧ dstB N o.dst = true ∧
  ((wantedF ops e o.guard = some true ∧ ∀ a, FrF N ds e a → ∀ w', S w' → (execOp a.eval o).run P w' = .ok (.value v) w') ∨ (wantedF ops e o.guard = some false ∧ v = undef)) ∧
  ChainH P N ds S ops K r (consD o.dst v e)

section
variable {P : Program} {ops : Array Oper} {Q : Exit → Act → World → Prop} {md : Region.Mode} {N : Nat} {ds : List Deferred} {e : List (Nat × Value)} {w : World} {a : Act} {KC : List (Nat × Value) → Prop} {S : World → Prop}

theorem ChainH.step {n : Nat} {r : List Nat} {o : Oper} {v : Value} {d : Nat} (ho : ops[n]? = some o) (hd : o.dst = some d) (hN : Nat.blt d N = true) (hw : wantedF ops e o.guard = some true)
  (hv : ∀ a, FrF N ds e a → ∀ w', S w' → (execOp a.eval o).run P w' = .ok (.value v) w') (h : ChainH P N ds S ops KC r ((d, v) :: e)) : ChainH P N ds S ops KC (n :: r) e :=
 ⟨o, v, ho, by rw [hd]; simpa [dstB, Nat.blt_eq] using hN, Or.inl ⟨hw, hv⟩, by rw [hd]; exact h⟩

theorem chainH_imp {K K' : List (Nat × Value) → Prop} (hk : ∀ e, K e → K' e) : ∀ {plan : List Nat} {e : List (Nat × Value)}, ChainH P N ds S ops K plan e → ChainH P N ds S ops K' plan e
 | [], _, h => hk _ h
 | _ :: _, _, ⟨o, v, h1, h2, h3, h4⟩ => ⟨o, v, h1, h2, h3, chainH_imp hk h4⟩
/-- Whatever order is picked from here on; S is kept. -/
abbrev wpAnyS (P : Program) (md : Region.Mode) (ops : Array Oper) (Q : Exit → Act → World → Prop) (S : World → Prop) : Nat → Array Bool → Act → World → Prop := wpAnyM P md ops Q S []

theorem held_run {fuel : Nat} (hs : Region.noSelect ops = true) (hQ : ∀ c a d v w, Q (.panic c) (Act.put a d v) w → Q (.panic c) a w) (hS : S w) :
  ∀ (plan : List Nat) (listed : Array Bool) (e : List (Nat × Value)) (a : Act), planH md ops plan listed = true → FrF N ds e a →
   ChainH P N ds S ops (fun e' => ∀ a', FrF N ds e' a' → wpAnyS P md ops Q S fuel (afterH plan listed) a' w) plan e → wpAnyS P md ops Q S (fuel + plan.length) listed a w
 | [], _, _, _, _, hF, h => h _ hF
 | n :: r, listed, e, a, hp, hF, ⟨o, v, ho, hdst, hy, h⟩ => by
  simp only [planH, Bool.and_eq_true] at hp
  obtain ⟨h1, h2, h4⟩ := hp
  have hrest := held_run hs hQ hS r (listed.setIfInBounds n true) _ _ h4 (hF.put o.dst v hdst) h
  have hr : n ∈ Region.ready md ops listed := by simpa using h2
  refine wpAnyM_first (C := S) (fun _ => False) ho (by simp) (Region.noSelect_spec hs) (fun c a w => hQ c a o.dst v w) (fun _ h => h.elim) (fun _ _ h => by simp at h) (fun _ _ _ _ _ h1 h2 => h1 h2) _ listed a w (Region.free_spec ho h1) (fun _ h => h.elim) hr ?_ hS hrest
  rcases hy with ⟨hw, hv⟩ | ⟨hw, rfl⟩
  ·
   exact Or.inl ⟨hF.wanted hw, fun w' hw' => hv a hF w' hw'⟩
  ·
   exact Or.inr ⟨hF.wanted hw, rfl⟩



theorem held_step {n fuel : Nat} {listed : Array Bool} (h : wpOp P ops Q n (fun a' w' => (S w → S w') ∧ wpAnyS P md ops Q S fuel (listed.setIfInBounds n true) a' w') a w) :
  wpOp P ops Q n (fun a' w' => (List.contains ([] : List Nat) n = true → wpAny P md ops Q fuel (listed.setIfInBounds n true) a' w') ∧ (List.contains ([] : List Nat) n = false → (S w → S w') ∧ wpAnyM P md ops Q S [] fuel (listed.setIfInBounds n true) a' w')) a w :=
 wpOp_mono (fun _ _ h => ⟨fun hc => by simp at hc, fun _ => h⟩) h
theorem held_one {n fuel : Nat} {listed : Array Bool} (hr : Region.ready md ops listed = [n]) (h : wpOp P ops Q n (fun a' w' => (S w → S w') ∧ wpAnyS P md ops Q S fuel (listed.setIfInBounds n true) a' w') a w) : wpAnyS P md ops Q S (fuel + 1) listed a w :=
 ⟨fun e => (by rw [hr] at e; cases e), fun i hi => by
  rw [hr] at hi
  simp only [List.mem_singleton] at hi
  subst hi
  exact held_step h⟩
theorem held_two {n m fuel : Nat} {listed : Array Bool} (hr : Region.ready md ops listed = [n, m]) (h1 : wpOp P ops Q n (fun a' w' => (S w → S w') ∧ wpAnyS P md ops Q S fuel (listed.setIfInBounds n true) a' w') a w)
  (h2 : wpOp P ops Q m (fun a' w' => (S w → S w') ∧ wpAnyS P md ops Q S fuel (listed.setIfInBounds m true) a' w') a w) : wpAnyS P md ops Q S (fuel + 1) listed a w :=
 ⟨fun e => (by rw [hr] at e; cases e), fun i hi => by
  rw [hr] at hi
  simp only [List.mem_cons, List.not_mem_nil, or_false] at hi
  rcases hi with rfl | rfl
  ·
   exact held_step h1
  ·
   exact held_step h2⟩
theorem held_end {fuel : Nat} {listed : Array Bool} (hr : Region.ready md ops listed = []) (h : Q .normal a w) : wpAnyS P md ops Q S fuel listed a w := by
 cases fuel with
 | zero => exact ⟨hr, h⟩
 | succ n => exact ⟨fun _ => h, fun i hi => (by rw [hr] at hi; cases hi)⟩

/-- A store whose run is known. -/
theorem op_storev {n : Nat} {KA : Act → World → Prop} {o : Oper} {w' : World} {ty : TypeId} {x y : Operand} {g : Nat} {v : Value} (ho : ops[n]? = some o) (hd : o.dst = none) (hF : FrF N ds e a) (hw : wantedF ops e o.guard = some true) (hop : o.op = .store ty x y)
  (hx : slotV e x = some (.pointer (some ⟨g, 0, none⟩))) (hy : slotV e y = some v) (hr : (storeVar ty ⟨g, 0, none⟩ v).run P w = .ok () w') (h : ∀ a', FrF N ds e a' → KA a' w') : wpOp P ops Q n KA a w :=
 op_unit ho hd hF hw (fun a hF => by
  unfold execOp
  simp only [hop, hF.eval hx, hF.eval hy, Instr.storeAt, Instr.sureAddr, Sem.run_bind, Sem.run_pure, Result.andThen_ok, hr]) h

/-! ### .. that find themselves: kinds 0 not wanted, 1 moved, 2 assigned, 3 read, 8 in whatever world -/
def p1 : List (Nat × Nat) → List Nat
 | [] => []
 | p :: r => p.1 :: p1 r
def dh : List Nat → List (Nat × Nat)
 | [] => []
 | c :: r => (c / 16, c % 16) :: dh r
structure ChHT (P : Program) (N : Nat) (ds : List Deferred) (S : World → Prop) (ops : Array Oper) (K : List (Nat × Value) → Prop) (l : List (Nat × Nat)) (e : List (Nat × Value)) : Prop where
 run : ChainH P N ds S ops K (p1 l) e
structure ChHK (P : Program) (N : Nat) (ds : List Deferred) (S : World → Prop) (ops : Array Oper) (K : List (Nat × Value) → Prop) (k n : Nat) (r : List (Nat × Nat)) (e : List (Nat × Value)) : Prop where
 run : ChainH P N ds S ops K (n :: p1 r) e
section
variable {TC : List (Nat × Nat)} {n k : Nat} {o : Oper} {v : Value} {d : Nat} {E : List (Nat × Value)}
theorem zhk (k : Nat) (h : ChHK P N ds S ops KC k n TC e) : ChHT P N ds S ops KC ((n, k) :: TC) e := ⟨h.run⟩
theorem zhz (h : KC e) : ChHT P N ds S ops KC [] e := ⟨h⟩
theorem zhx (hg : goX ops N e n = some (o, d)) (h : ChHT P N ds S ops KC TC ((d, undef) :: e)) : ChHK P N ds S ops KC k n TC e := by
 obtain ⟨h1, h2, h3, h4⟩ := goX_spec hg
 exact ⟨⟨o, undef, h1, by rw [h2]; simpa [dstB, Nat.blt_eq] using h3, Or.inr ⟨h4, rfl⟩, by rw [h2]; exact h.run⟩⟩
theorem zhs (hg : goS ops N e n = some (o, d)) (hv : ∀ a, FrF N ds e a → ∀ w', S w' → (execOp a.eval o).run P w' = .ok (.value v) w') (h : ChHT P N ds S ops KC TC ((d, v) :: e)) : ChHK P N ds S ops KC k n TC e :=
 ⟨ChainH.step (goS_spec hg).1 (goS_spec hg).2.1 (goS_spec hg).2.2.1 (goS_spec hg).2.2.2 hv h.run⟩
theorem zhm {y : Operand} (hg : goS ops N e n = some (o, d)) (hop : o.op = .move y) (hv : slotV e y = some v) (h : ChHT P N ds S ops KC TC ((d, v) :: e)) : ChHK P N ds S ops KC k n TC e := zhs hg (fun _ hF _ _ => run_move y v o (Or.inl hop) (hF.eval hv)) h
theorem zha {y : Operand} (hg : goS ops N e n = some (o, d)) (hop : o.op = .assign y) (hv : slotV e y = some v) (h : ChHT P N ds S ops KC TC ((d, v) :: e)) : ChHK P N ds S ops KC k n TC e := zhs hg (fun _ hF _ _ => run_move y v o (Or.inr hop) (hF.eval hv)) h
theorem zhw {us : List (Nat × Value)} (hg : goT ops N e n = some (o, d, us)) (h : ChHT P N ds S ops KC TC ((d, v) :: e)) (hv : ∀ (a : Act) (w' : World), HvI a ((execOp a.eval o).run P w' = .ok (.value v) w') us := by intro _ _;simp only [HvI];intros;go_simp<;>with_reducible rfl) : ChHK P N ds S ops KC k n TC e := zhs (goT_spec hg).1 (fun a hF w' _ => HvI_of hF (goT_spec hg).2 (hv a w')) h
theorem zhr {us : List (Nat × Value)} (hg : goT ops N e n = some (o, d, us)) (h : ChHT P N ds S ops KC TC ((d, v) :: e)) (hv : ∀ (a : Act) (w' : World), S w' → HvI a ((execOp a.eval o).run P w' = .ok (.value v) w') us := by intro _ _ hw;(repeat obtain ⟨_, hw⟩ := hw);simp only [HvI];intros;go_simp<;>with_reducible rfl) : ChHK P N ds S ops KC k n TC e := zhs (goT_spec hg).1 (fun a hF w' hS => HvI_of hF (goT_spec hg).2 (hv a w' hS)) h
theorem zhc {fuel fuel' : Nat} {listed : Array Bool} (S : World → Prop) (hS : S w) (plan : List Nat) (h2 : ∀ a', FrF N ds E a' → wpAnyS P md ops Q S fuel (afterH (p1 (dh plan)) listed) a' w) (h1 : ChHT P N ds S ops (EndAt E) (dh plan) e := by repeat (first | (refine zhz ?_; exact rfl) | (refine zhk 1 ?_; refine zhm rfl rfl rfl ?_) | (refine zhk 0 ?_; refine zhx rfl ?_) | (refine zhk 8 ?_; refine zhw rfl ?_) | (refine zhk 3 ?_; refine zhr rfl ?_) | (refine zhk 2 ?_; refine zha rfl rfl rfl ?_))) (hf : fuel' = fuel + (p1 (dh plan)).length := by rfl) (hs : Region.noSelect ops = true := by kernel_rfl) (hp : planH md ops (p1 (dh plan)) listed = true := by kernel_rfl)
  (hQ : ∀ c a d v w, Q (.panic c) (Act.put a d v) w → Q (.panic c) a w := by intro _ _ d _ _ h; cases d <;> exact h) (hF : FrF N ds e a) : wpAny P md ops Q fuel' listed a w :=
 wpAny_of_M _ _ _ _ (by subst hf; exact held_run hs hQ hS _ listed e a hp hF (chainH_imp (fun e' he => by rw [he]; exact h2) h1.run))
theorem zhg {fuel fuel' : Nat} {listed : Array Bool} (hS : S w) (plan : List Nat) (h2 : ∀ a', FrF N ds E a' → wpAnyS P md ops Q S fuel (afterH (p1 (dh plan)) listed) a' w) (h1 : ChHT P N ds S ops (EndAt E) (dh plan) e := by repeat (first | (refine zhz ?_; exact rfl) | (refine zhk 1 ?_; refine zhm rfl rfl rfl ?_) | (refine zhk 0 ?_; refine zhx rfl ?_) | (refine zhk 8 ?_; refine zhw rfl ?_) | (refine zhk 3 ?_; refine zhr rfl ?_) | (refine zhk 2 ?_; refine zha rfl rfl rfl ?_))) (hf : fuel' = fuel + (p1 (dh plan)).length := by rfl) (hs : Region.noSelect ops = true := by kernel_rfl) (hp : planH md ops (p1 (dh plan)) listed = true := by kernel_rfl)
  (hQ : ∀ c a d v w, Q (.panic c) (Act.put a d v) w → Q (.panic c) a w := by intro _ _ d _ _ h; cases d <;> exact h) (hF : FrF N ds e a) : wpAnyS P md ops Q S fuel' listed a w := by
 subst hf
 exact held_run hs hQ hS _ listed e a hp hF (chainH_imp (fun e' he => by rw [he]; exact h2) h1.run)
end
end
end Go.Proofs.YthabgljdndbphaaGreatDoor

namespace Go.Proofs.YthabgljdndbphaaGreatDoor
set_option linter.unusedSimpArgs false
set_option linter.unusedVariables false

/-- The first place where p holds, or -1. -/
def idxS {α : Type} (p : α → Bool) (xs : List α) : Int := if xs.findIdx p < xs.length then (xs.findIdx p : Int) else -1

theorem idx_hit {α : Type} {p : α → Bool} {xs : List α} {i : Nat} (hi : i < xs.length) (h : p xs[i] = true) (hb : ∀ j (hj : j < xs.length), j < i → p xs[j] = false) : idxS p xs = i := by
 have e : xs.findIdx p = i := (List.findIdx_eq hi).2 ⟨h, fun j hj => by simpa using hb j (by omega) hj⟩
 unfold idxS
 rw [e, if_pos hi]
theorem idx_none {α : Type} {p : α → Bool} {xs : List α} (hb : ∀ j (hj : j < xs.length), p xs[j] = false) : idxS p xs = -1 := by
 unfold idxS
 rw [if_neg]
 rw [List.findIdx_lt_length]
 rintro ⟨x, hx, hp⟩
 obtain ⟨j, hj, rfl⟩ := List.getElem_of_mem hx
 rw [hb j hj] at hp
 cases hp
theorem idx_any {α : Type} (p : α → Bool) (xs : List α) : decide (0 ≤ idxS p xs) = xs.any p := by
 unfold idxS
 by_cases h : xs.findIdx p < xs.length
 ·
  rw [if_pos h]
  have := List.findIdx_lt_length.1 h
  rw [decide_eq_true (by omega)]
  exact (List.any_eq_true.2 this).symm
 ·
  rw [if_neg h]
  cases hx : xs.any p
  ·
   rfl
  ·
   exact absurd (List.findIdx_lt_length.2 (List.any_eq_true.1 hx)) h

end Go.Proofs.YthabgljdndbphaaGreatDoor
