/- ledger: accounts as keys of maps; what a map of balances and a map of numbers hold. -/
import Derived.Maps.Keyed
import Derived.Maps.Own
import Derived.Maps.OwnSet
import Derived.Maps.Views
import Derived.Maps.RangeWalk
import Derived.DeepKeys4
import Derived.Test.YtafhdpalobalkaaL4
namespace Go.Proofs.Ytafhdpalobalkaa
open Go.RowKit Go.IntWalk Go.Maps Go.WideMaps

def accV (a : AccT) : Value := .agg #[.int .i64 a.1, .string (bs a.2)]
def keyL (a : AccT) : Lit := .string (keyBytes [.int .i64 a.1, .string a.2])

/-- An account that Go can hold. -/
structure WfA (a : AccT) : Prop where
  kind : (Lit.int .i64 a.1).wf = true
  name : a.2.length ≤ maxLen

theorem laidOut : laidOutB Try.prog = true := by kernel_rfl

theorem lawA : Keyed Try.prog 39 := Keyed.of_law (deep_law_laid laidOut (m := 20) (by decide) (by decide +kernel) (by kernel_rfl) (by kernel_rfl))

theorem lawI : Keyed Try.prog 3 := int_keyed Try.underlying3

theorem key_acc (a : AccT) (h : WfA a) : keyOf Try.prog 39 (accV a) = some (keyL a) := by
  have h1 := h.kind
  have h2 : (bs a.2).size ≤ maxLen := by rw [bs_size]; exact h.name
  have hkt : Try.prog.keyType 39 = true := by kernel_rfl
  have ho : Try.prog.cellsOf 39 = 2 := by kernel_rfl
  have hi : Try.prog.cellsOf 3 = 1 := by kernel_rfl
  have hs : Try.prog.cellsOf 9 = 1 := by kernel_rfl
  obtain ⟨m, hm⟩ : ∃ m, Try.prog.types.size = m + 1 := ⟨_, rfl⟩
  unfold keyOf accV keyL
  simp only [Try.underlying39]
  rw [if_pos (by simp [hkt, Value.formed, Try.underlying39, ho]), hm]
  unfold Program.keyLits
  simp only [Try.underlying39, Value.cells]
  simp [ho, hi, hs, Program.keyLits, Try.underlying3, Try.underlying9, h1, h2, bs_list]

theorem key_inj {a b : AccT} (ha : WfA a) (hb : WfA b) (h : keyL a = keyL b) : a = b := by
  have := lawA.inj (key_acc a ha) (by rw [h]; exact key_acc b hb)
  unfold accV at this
  simp only [Value.agg.injEq, Array.mk.injEq, List.cons.injEq, Value.int.injEq, Value.string.injEq, true_and, and_true] at this
  exact Prod.ext this.1 (bs_inj.mp this.2)

theorem lits_int {m : Nat} {u : Value} {L : List Lit} (h : Try.prog.keyLits (m + 1) 3 [u] = some L) : ∃ k, u = .int .i64 k ∧ L = [.int .i64 k] ∧ (Lit.int .i64 k).wf = true := by
  cases u <;> simp [Program.keyLits, Try.underlying3] at h
  obtain ⟨⟨rfl, hw⟩, rfl⟩ := h
  exact ⟨_, rfl, rfl, hw⟩

theorem lits_string {m : Nat} {u : Value} {L : List Lit} (h : Try.prog.keyLits (m + 1) 9 [u] = some L) : ∃ s : ByteArray, u = .string s ∧ L = [.string s.data.toList] ∧ s.size ≤ maxLen := by
  cases u <;> simp [Program.keyLits, Try.underlying9] at h
  obtain ⟨hw, rfl⟩ := h
  exact ⟨_, rfl, rfl, hw⟩

theorem key_inv {v : Value} {l : Lit} (h : keyOf Try.prog 39 v = some l) : ∃ a, v = accV a ∧ WfA a ∧ l = keyL a := by
  obtain ⟨xs, L, rfl, hL, rfl⟩ := keyOf_top (P := Try.prog) (k := 39) (by kernel_rfl) h
  have ho : Try.prog.cellsOf 39 = 2 := by kernel_rfl
  have hi : Try.prog.cellsOf 3 = 1 := by kernel_rfl
  have hs : Try.prog.cellsOf 9 = 1 := by kernel_rfl
  obtain ⟨m, hm⟩ : ∃ m, Try.prog.types.size = m + 1 := ⟨_, rfl⟩
  rw [hm] at hL
  obtain ⟨xs⟩ := xs
  unfold Program.keyLits at hL
  simp only [Try.underlying39, ho] at hL
  split at hL
  · rename_i hc
    obtain ⟨u, v, rfl⟩ : ∃ u v, xs = [u, v] := by
      have := hc.1
      cases xs with
      | nil => simp at this
      | cons u xs =>
        cases xs with
        | nil => simp at this
        | cons v xs =>
          cases xs with
          | nil => exact ⟨u, v, rfl⟩
          | cons x xs => simp at this
    clear hm hc h
    simp [hi, hs] at hL
    rw [Option.bind_eq_some_iff] at hL
    obtain ⟨L1, h1, hL⟩ := hL
    simp only [Function.comp, Option.map_eq_some_iff, Option.bind_eq_some_iff, Option.some.injEq] at hL
    obtain ⟨LL, ⟨L3, ⟨L2, h2, rfl⟩, rfl⟩, rfl⟩ := hL
    obtain ⟨k, rfl, rfl, hw⟩ := lits_int h1
    obtain ⟨s, rfl, rfl, hz⟩ := lits_string h2
    exact ⟨(k, s.data.toList), by unfold accV; rw [← bs_of], ⟨hw, by simp; exact hz⟩, rfl⟩
  · simp at hL
end Go.Proofs.Ytafhdpalobalkaa
