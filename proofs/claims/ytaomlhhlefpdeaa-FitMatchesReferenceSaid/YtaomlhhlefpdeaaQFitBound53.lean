/- What an argument's reading gives the walks: a slice of integers reads as Ints, a slice of pairs as Pairs; What an argument of type Packing gives the walks. -/
import Derived.Test.YtaomlhhlefpdeaaQFitBound09
import Derived.Test.YtaomlhhlefpdeaaRows
import Derived.ProofKit
import Derived.OpenShut
import Derived.ChangeOld
import Derived.Below
import Derived.Deep.SlicePairs
import Derived.Lib.SmallJoins

namespace Go.Proofs.Ytaomlhhlefpdeaa
open Go.ChangeShapes Go.WideShapes Go.ChangeAt Go.RowKit Go.Deep Go.Joins

section
variable {H : Type} {enc : TypeId × Value → H} {w : World} {base : Nat} {held : Bool}

theorem add_whole (b o k : Nat) : (⟨b, o, none⟩ : Addr).add k = ⟨b, o + k, none⟩ := by
  unfold Addr.add; split
  · subst_vars; rfl
  · rfl

theorem whole_of {b o : Nat} {s} {v : Value} (h : w.cell? ((Addr.mk b o s).add 0) = some v) : s = none := by
  simpa [Addr.add] using World.cell?_spot h

def num : Value → Int
  | .int _ n => n
  | _ => 0

theorem ints_read {fuel : Nat} {v : Value} {x : DataW H × List MemPlace} (h : DataW.trod enc Try.prog w base (fun _ => true) held fuel 22 [v] = some x) :
    ∃ (ra : Option Addr) (n c : Nat) (R : List Int), v = .slice ra n c ∧ n ≤ 9223372036854775807 ∧ (ra = none → c = 0) ∧ Ints w ra n R := by
  rcases open_ints Try.underlying22 Try.underlying3 (by kernel_rfl) h with ⟨hcs, _⟩ | ⟨x, l, c, zs, hcs, _, hl, hm, hz, _, hcell, hwz⟩
  · simp at hcs
    subst hcs
    exact ⟨none, 0, 0, [], rfl, by omega, fun _ => rfl, rfl, fun k hk => absurd hk (by omega)⟩
  · simp at hcs
    subst hcs
    obtain ⟨b, o, s⟩ := x
    have hz' : zs.length = c := by simpa using hz
    unfold maxLen at hm
    refine ⟨some ⟨b, o, s⟩, l, c, zs.take l, rfl, by omega, fun e => by simp at e, by rw [List.length_take]; omega, fun k hk => ?_⟩
    have hc := hcell k (by omega)
    have hs : s = none := whole_of (hcell 0 (by omega))
    subst hs
    refine ⟨b, o, rfl, ?_⟩
    have e : ix (zs.take l) k = zs.getD k 0 := by unfold ix; simp [List.getD, hk]
    rw [e]
    exact (add_whole b o k) ▸ hc

theorem pairs_read {fuel : Nat} {v : Value} {x : DataW H × List MemPlace} (h : DataW.trod enc Try.prog w base (fun _ => true) held fuel 23 [v] = some x) :
    ∃ (ra : Option Addr) (n c : Nat) (G : List (Int × Int)), v = .slice ra n c ∧ n ≤ 9223372036854775807 ∧ (ra = none → c = 0) ∧ Pairs w ra n G := by
  rcases open_slice_pairs Try.underlying23 Try.underlying37 (by kernel_rfl) rfl rfl (by kernel_rfl) (by kernel_rfl) h with ⟨hcs, _⟩ | ⟨x, l, c, m, n, V0, V1, D0, D1, P0, P1, hcs, _, hl, hm, hmm, _, hcell⟩
  · simp at hcs
    subst hcs
    exact ⟨none, 0, 0, [], rfl, by omega, fun _ => rfl, rfl, fun k hk => absurd hk (by omega)⟩
  · simp at hcs
    subst hcs
    obtain ⟨b, o, s⟩ := x
    have hm' : m = c := by simpa using hmm
    subst hm'
    unfold maxLen at hm
    refine ⟨some ⟨b, o, s⟩, l, m, (List.range l).map fun i => (num (V0 i), num (V1 i)), rfl, by omega, fun e => by simp at e, by simp, fun k hk => ?_⟩
    obtain ⟨c0, c1, t0, t1⟩ := hcell k (by omega)
    obtain ⟨n0, e0, _⟩ := DataW.trod_int Try.underlying3 t0
    obtain ⟨n1, e1, _⟩ := DataW.trod_int Try.underlying3 t1
    simp at e0 e1
    have hs : s = none := by
      obtain ⟨z0, _⟩ := hcell 0 (by omega)
      exact whole_of z0
    subst hs
    have g0 : gs ((List.range l).map fun i => (num (V0 i), num (V1 i))) k = n0 := by unfold gs; simp [List.getD, hk, e0, num]
    have g1 : gv ((List.range l).map fun i => (num (V0 i), num (V1 i))) k = n1 := by unfold gv; simp [List.getD, hk, e1, num]
    refine ⟨b, o, rfl, ?_, ?_⟩
    · rw [g0, ← e0]; exact (add_whole b o (k * 2)) ▸ c0
    · rw [g1, ← e1]; exact (add_whole b o (k * 2 + 1)) ▸ c1

set_option maxRecDepth 100000 in
/-- The argument of type Problem: its three fields. -/
theorem problem_read {r : Reach} {b0 : Nat} {v : Value} {d : DataW H} {p : List MemPlace} (hv : Value.okWide Try.prog w r b0 25 v)
    (h : DataW.Trod enc Try.prog w base (fun _ => true) held 25 v d p) :
    ∃ (ra : Option Addr) (n c : Nat) (ga : Option Addr) (m e : Nat) (single : Bool) (R : List Int) (G : List (Int × Int)), v = .agg #[.slice ra n c, .slice ga m e, .bool single] ∧
      n ≤ 9223372036854775807 ∧ m ≤ 9223372036854775807 ∧ Ints w ra n R ∧ Pairs w ga m G ∧ (ra = none → c = 0) ∧ (ga = none → e = 0) := by
  obtain ⟨v0, v1, v2, y0, y1, y2, n, rfl, _, _, h0, h1, h2⟩ := open_agg3 Try.underlying25 (by kernel_rfl) (by kernel_rfl) hv h
  obtain ⟨ra, n0, c, R, rfl, hn, hc, hR⟩ := ints_read h0
  obtain ⟨ga, m, e, G, rfl, hm, he, hG⟩ := pairs_read h1
  obtain ⟨q, e2, _⟩ := DataW.trod_bool Try.underlying4 h2
  simp at e2
  subst e2
  exact ⟨ra, n0, c, ga, m, e, q, R, G, rfl, hn, hm, hR, hG, hc, he⟩
end
end Go.Proofs.Ytaomlhhlefpdeaa

namespace Go.Proofs.Ytaomlhhlefpdeaa
open Go.ChangeShapes Go.WideShapes Go.ChangeAt Go.RowKit Go.Deep Go.Joins

section
variable {H : Type} {enc : TypeId × Value → H} {w : World} {base : Nat} {held : Bool}

theorem spots_read {fuel : Nat} {v : Value} {x : DataW H × List MemPlace} (h : DataW.trod enc Try.prog w base (fun _ => true) held fuel 28 [v] = some x) :
    ∃ (ra : Option Addr) (n c : Nat) (G : List (Int × Int)), v = .slice ra n c ∧ n ≤ 9223372036854775807 ∧ (ra = none → c = 0) ∧ Pairs w ra n G := by
  rcases open_slice_pairs Try.underlying28 Try.underlying39 (by kernel_rfl) rfl rfl (by kernel_rfl) (by kernel_rfl) h with ⟨hcs, _⟩ | ⟨x, l, c, m, n, V0, V1, D0, D1, P0, P1, hcs, _, hl, hm, hmm, _, hcell⟩
  · simp at hcs
    subst hcs
    exact ⟨none, 0, 0, [], rfl, by omega, fun _ => rfl, rfl, fun k hk => absurd hk (by omega)⟩
  · simp at hcs
    subst hcs
    obtain ⟨b, o, s⟩ := x
    have hm' : m = c := by simpa using hmm
    subst hm'
    unfold maxLen at hm
    refine ⟨some ⟨b, o, s⟩, l, m, (List.range l).map fun i => (num (V0 i), num (V1 i)), rfl, by omega, fun e => by simp at e, by simp, fun k hk => ?_⟩
    obtain ⟨c0, c1, t0, t1⟩ := hcell k (by omega)
    obtain ⟨n0, e0, _⟩ := DataW.trod_int Try.underlying3 t0
    obtain ⟨n1, e1, _⟩ := DataW.trod_int Try.underlying3 t1
    simp at e0 e1
    have hs : s = none := by
      obtain ⟨z0, _⟩ := hcell 0 (by omega)
      exact whole_of z0
    subst hs
    have g0 : gs ((List.range l).map fun i => (num (V0 i), num (V1 i))) k = n0 := by unfold gs; simp [List.getD, hk, e0, num]
    have g1 : gv ((List.range l).map fun i => (num (V0 i), num (V1 i))) k = n1 := by unfold gv; simp [List.getD, hk, e1, num]
    refine ⟨b, o, rfl, ?_, ?_⟩
    · rw [g0, ← e0]; exact (add_whole b o (k * 2)) ▸ c0
    · rw [g1, ← e1]; exact (add_whole b o (k * 2 + 1)) ▸ c1

set_option maxRecDepth 100000 in
/-- The argument of type Packing: its two fields. -/
theorem packing_read {r : Reach} {b0 : Nat} {v : Value} {d : DataW H} {p : List MemPlace} (hv : Value.okWide Try.prog w r b0 30 v)
    (h : DataW.Trod enc Try.prog w base (fun _ => true) held 30 v d p) :
    ∃ (sa : Option Addr) (k c : Nat) (V : Int) (S : List (Int × Int)), v = .agg #[.slice sa k c, .int .i64 V] ∧ k ≤ 9223372036854775807 ∧ Pairs w sa k S ∧ (sa = none → c = 0) := by
  obtain ⟨v0, v1, y0, y1, n, rfl, _, _, h0, h1⟩ := open_agg2 Try.underlying30 (by kernel_rfl) (by kernel_rfl) hv h
  obtain ⟨sa, k, c, S, rfl, hk, hc, hS⟩ := spots_read h0
  obtain ⟨V, e1, _⟩ := DataW.trod_int Try.underlying3 h1
  simp at e1
  subst e1
  exact ⟨sa, k, c, V, S, rfl, hk, hS, hc⟩
end
end Go.Proofs.Ytaomlhhlefpdeaa
