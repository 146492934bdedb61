/- What an argument's reading gives the walks of ledgers: postings, bookings, accounts. -/
import Derived.Test.YtafhdpalobalkaaRows
import Derived.Test.YtafhdpalobalkaaLD3
import Derived.ProofKit
import Derived.OpenShut
import Derived.ChangeOld
import Derived.Below
import Derived.Deep.SlicePairs
import Derived.Lib.SmallJoins
import Derived.ChangeMaps5
namespace Go.Proofs.Ytafhdpalobalkaa
open Go.ChangeShapes Go.WideShapes Go.ChangeAt Go.RowKit Go.Deep Go.Joins Go.IntWalk

section
variable {H : Type} {enc : TypeId × Value → H} {w : World} {base : Nat} {held : Bool}

theorem add_whole (b o k : Nat) : (⟨b, o, none⟩ : Addr).add k = ⟨b, o + k, none⟩ := by
  unfold Addr.add; split
  · subst_vars; rfl
  · rfl

theorem whole_of {b o : Nat} {s} {v : Value} (h : w.cell? ((Addr.mk b o s).add 0) = some v) : s = none := by
  simpa [Addr.add] using World.cell?_spot h

def numV : Value → Int
  | .int _ n => n
  | _ => 0

def strV : Value → List UInt8
  | .string s => s.data.toList
  | _ => []

set_option maxRecDepth 100000 in
/-- The cells of a posting. -/
theorem post_cells {fuel : Nat} {cs : List Value} {x : DataW H × List MemPlace} (h : DataW.trod enc Try.prog w base (fun _ => true) held fuel 44 cs = some x) :
    ∃ p : PostT, cs = PostE.cells p ∧ p.1.2.length ≤ maxLen ∧ (Lit.int .i64 p.1.1).wf = true := by
  obtain ⟨y0, y1, n, _, hl, h0, h1⟩ := trod_struct2 Try.underlying44 h
  obtain ⟨z0, z1, m, _, hl2, k0, k1⟩ := trod_struct2 Try.underlying39 h0
  rw [show Try.prog.cellsOf 44 = 3 from by kernel_rfl] at hl
  match cs, hl with
  | [c0, c1, c2], _ =>
    obtain ⟨a, e2, _, _⟩ := DataW.trod_int Try.underlying3 h1
    obtain ⟨k, e0, _, hk⟩ := DataW.trod_int Try.underlying3 k0
    obtain ⟨t, e1, _, ht⟩ := DataW.trod_string Try.underlying9 k1
    rw [show Try.prog.cellsOf 3 = 1 from by kernel_rfl] at e0 e2
    rw [show Try.prog.cellsOf 39 = 2 from by kernel_rfl] at e0 e1
    rw [show Try.prog.cellsOf 9 = 1 from by kernel_rfl] at e1
    simp at e0 e1 e2
    subst e0 e1 e2
    exact ⟨((k, t.data.toList), a), by rw [bs_of t]; rfl, by simpa using ht, hk⟩

set_option maxRecDepth 100000 in
theorem posts_read {fuel : Nat} {v : Value} {x : DataW H × List MemPlace} (h : DataW.trod enc Try.prog w base (fun _ => true) held fuel 32 [v] = some x) :
    ∃ (ra : Option Addr) (n c : Nat) (l : List PostT), v = .slice ra n c ∧ n ≤ 9223372036854775807 ∧ Posts w ra n l ∧ ∀ i, i < l.length → (pn l i).length ≤ maxLen ∧ (Lit.int .i64 (pk l i)).wf = true := by
  rcases open_slice Try.underlying32 h with ⟨hcs, _⟩ | ⟨a, len, cap, m, fu, D, P0, hcs, _, hl, hm, hmm, _, hx⟩
  · simp at hcs
    subst hcs
    exact ⟨none, 0, 0, [], rfl, by omega, Recs.none _, fun i hi => absurd hi (Nat.not_lt_zero _)⟩
  · simp at hcs
    subst hcs
    simp only [if_true] at hmm
    subst hmm
    obtain ⟨b, o, s⟩ := a
    unfold maxLen at hm
    rw [show Try.prog.cellsOf 44 = 3 from by kernel_rfl] at hx
    obtain ⟨F, hF⟩ := choose_lt (α := PostT) (p := fun i p => w.cells? base ((Addr.mk b o s).add (i * 3)) 3 = some (PostE.cells p) ∧ p.1.2.length ≤ maxLen ∧ (Lit.int .i64 p.1.1).wf = true) (n := len) (fun i hi => by
      obtain ⟨cs', h1, h2⟩ := hx i (by omega)
      obtain ⟨p, rfl, h3⟩ := post_cells h2
      exact ⟨p, h1, h3⟩)
    have hlen : ((List.range len).map F).length = len := by simp
    have hget : ∀ i (hi : i < len), ((List.range len).map F)[i]'(by rw [hlen]; exact hi) = F i := fun i hi => by simp
    refine ⟨some ⟨b, o, s⟩, len, m, (List.range len).map F, rfl, by omega, ⟨hlen, fun i hi => ?_⟩, fun i hi => ?_⟩
    · have hs : s = none := by
        obtain ⟨_, _, hc⟩ := World.cells?_some (hF 0 (by omega)).1
        have := hc 0 (by omega)
        rw [add_add] at this
        exact whole_of (this.trans rfl)
      subst hs
      refine ⟨b, o, rfl, fun j hj => ?_⟩
      obtain ⟨_, _, hc⟩ := World.cells?_some (hF i hi).1
      have := hc j hj
      rw [add_add, add_whole] at this
      rw [Nat.add_assoc, this, rc_eq _ _ (by rw [hlen]; exact hi), hget i hi]
      have : j = 0 ∨ j = 1 ∨ j = 2 := by omega
      rcases this with rfl | rfl | rfl <;> rfl
    · rw [hlen] at hi
      rw [pn_eq _ _ (by rw [hlen]; exact hi), pk_eq _ _ (by rw [hlen]; exact hi), hget i hi]
      exact (hF i hi).2

set_option maxRecDepth 100000 in
theorem books_read {fuel : Nat} {v : Value} {x : DataW H × List MemPlace} (h : DataW.trod enc Try.prog w base (fun _ => true) held fuel 22 [v] = some x) :
    ∃ (ra : Option Addr) (n c : Nat) (Bs : List BookT), v = .slice ra n c ∧ n ≤ 9223372036854775807 ∧ Books w ra n Bs ∧ WfB Bs := by
  rcases open_slice_pairs Try.underlying22 Try.underlying34 (by kernel_rfl) rfl rfl (by kernel_rfl) (by kernel_rfl) h with ⟨hcs, _⟩ | ⟨a, len, cap, m, fu, V0, V1, D0, D1, P0, P1, hcs, _, hl, hm, hmm, _, hx⟩
  · simp at hcs
    subst hcs
    exact ⟨none, 0, 0, [], rfl, by omega, ⟨[], Recs.none _, rfl, fun i h1 => absurd h1 (Nat.not_lt_zero _)⟩, fun b hb => by simp at hb⟩
  · simp at hcs
    subst hcs
    simp only [if_true] at hmm
    subst hmm
    obtain ⟨b, o, s⟩ := a
    unfold maxLen at hm
    obtain ⟨F, hF⟩ := choose_lt (α := RawT × BookT) (p := fun i p => V0 i = .int .i64 p.1.1 ∧ V1 i = .slice p.1.2.1 p.1.2.2.1 p.1.2.2.2 ∧ p.1.1 = p.2.1 ∧ Posts w p.1.2.1 p.1.2.2.1 p.2.2 ∧ ∀ i, i < p.2.2.length → (pn p.2.2 i).length ≤ maxLen ∧ (Lit.int .i64 (pk p.2.2 i)).wf = true) (n := len) (fun i hi => by
      obtain ⟨_, _, h0, h1⟩ := hx i (by omega)
      obtain ⟨id, e0, _⟩ := DataW.trod_int Try.underlying3 h0
      obtain ⟨ra, n, c, l, e1, _, hP, hw⟩ := posts_read h1
      simp only [List.cons.injEq, and_true] at e0
      exact ⟨((id, (ra, n, c)), (id, l)), e0, e1, rfl, hP, hw⟩)
    have hlen : ((List.range len).map fun i => (F i).1).length = len := by simp
    have hlen2 : ((List.range len).map fun i => (F i).2).length = len := by simp
    have hget : ∀ i (hi : i < len), ((List.range len).map fun i => (F i).1)[i]'(by rw [hlen]; exact hi) = (F i).1 := fun i hi => by simp
    have hget2 : ∀ i (hi : i < len), ((List.range len).map fun i => (F i).2)[i]'(by rw [hlen2]; exact hi) = (F i).2 := fun i hi => by simp
    refine ⟨some ⟨b, o, s⟩, len, m, (List.range len).map fun i => (F i).2, rfl, by omega, ⟨(List.range len).map fun i => (F i).1, ⟨hlen, fun i hi => ?_⟩, by rw [hlen, hlen2], fun i h1 h2 => ?_⟩, fun x hx => ?_⟩
    · have hs : s = none := whole_of (by simpa using (hx 0 (by omega)).1)
      subst hs
      refine ⟨b, o, rfl, fun j hj => ?_⟩
      obtain ⟨g0, g1, _⟩ := hx i (by omega)
      obtain ⟨e0, e1, _⟩ := hF i hi
      rw [add_whole] at g0 g1
      rw [rc_eq _ _ (by rw [hlen]; exact hi), hget i hi]
      match j, hj with
      | 0, _ => exact g0.trans (by rw [e0]; rfl)
      | 1, _ => exact g1.trans (by rw [e1]; rfl)
    · rw [hlen] at h1
      rw [hget i h1, hget2 i h1]
      exact ⟨(hF i h1).2.2.1, (hF i h1).2.2.2.1⟩
    · obtain ⟨i, hi, rfl⟩ := List.mem_map.mp hx
      exact (hF i (List.mem_range.mp hi)).2.2.2.2

theorem books_arg {r : Reach} {b0 : Nat} {v : Value} {d : DataW H} {p : List MemPlace} (hv : Value.okWide Try.prog w r b0 22 v)
    (h : DataW.Trod enc Try.prog w base (fun _ => true) held 22 v d p) :
    ∃ (ra : Option Addr) (n c : Nat) (Bs : List BookT), v = .slice ra n c ∧ n ≤ 9223372036854775807 ∧ Books w ra n Bs ∧ WfB Bs := by
  obtain ⟨a, len, cap, rfl⟩ := okWide_slice Try.underlying22 hv
  obtain ⟨m, hm⟩ := h
  exact books_read hm

set_option maxRecDepth 100000 in
theorem booking_arg {r : Reach} {b0 : Nat} {v : Value} {d : DataW H} {p : List MemPlace} (hv : Value.okWide Try.prog w r b0 34 v)
    (h : DataW.Trod enc Try.prog w base (fun _ => true) held 34 v d p) :
    ∃ (id : Int) (ra : Option Addr) (n c : Nat) (l : List PostT), v = .agg #[.int .i64 id, .slice ra n c] ∧ n ≤ 9223372036854775807 ∧ Posts w ra n l ∧ (∀ i, i < l.length → (pn l i).length ≤ maxLen ∧ (Lit.int .i64 (pk l i)).wf = true) ∧ (Lit.int .i64 id).wf = true := by
  obtain ⟨v0, v1, y0, y1, n, rfl, _, _, h0, h1⟩ := open_agg2 Try.underlying34 (by kernel_rfl) (by kernel_rfl) hv h
  obtain ⟨id, e0, _, hid⟩ := DataW.trod_int Try.underlying3 h0
  obtain ⟨ra, n0, c, l, rfl, hn, hP, hw⟩ := posts_read h1
  simp at e0
  subst e0
  exact ⟨id, ra, n0, c, l, rfl, hn, hP, hw, hid⟩
end
end Go.Proofs.Ytafhdpalobalkaa
