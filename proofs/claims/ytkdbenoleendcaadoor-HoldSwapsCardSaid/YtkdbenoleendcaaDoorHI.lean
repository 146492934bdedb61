/- slices.ContainsFunc with a Holds' own test. -/
import Derived.Test.YtkdbenoleendcaaDoorHN
namespace Go.Proofs.YtkdbenoleendcaaDoor
open Go.RowKit Go.IntWalk Go.Maps Go.WideMaps

theorem any_take {l : List Int} {f : Int → Bool} {i : Nat} (hi : i < l.length) (h : f (ix l i) = true) : l.any f = true := by
  rw [List.any_eq_true]
  exact ⟨ix l i, ix_mem hi, h⟩

theorem any_none {l : List Int} {f : Int → Bool} (h : ∀ j, j < l.length → f (ix l j) = false) : l.any f = false := by
  rw [List.any_eq_false]
  intro x hx
  obtain ⟨j, hj, e⟩ := List.getElem_of_mem hx
  have := h j hj
  rw [ix_get hj, e] at this
  simp [this]

/-- An index at which the test holds, or -1. -/
def IdxPost (l : List Int) (sp : List SpT) (w : World) (e : Ending) (w' : World) : Prop :=
  ∃ r : Int, e = .returned (.int .i64 r) ∧ decide (0 ≤ r) = l.any (takenB sp) ∧ w = w'

set_option maxRecDepth 10000 in
theorem index_any (g sb n c : Nat) (mv lv : Value) (sp : List SpT) (l : List Int) (pa : Option Addr) (m mc : Nat) (w : World)
    (hg : w.heap[g]? = some (.cells #[mv, .slice (some ⟨sb, 0, none⟩) n c, lv] 63 (0, 0))) (hs : RecRow SpE w sb 35 sp) (hl : sp.length = n) (hm : m ≤ 4000)
    (hr : ∀ p ∈ l, 0 ≤ p ∧ p < n) (hL : Ints w pa m l) :
    Calls Tryd.prog 47 #[.slice pa m mc, .func (.func 39) #[.pointer (some ⟨g, 0, none⟩)] #[]] w (IdxPost l sp w) := by
  have hlen := hL.1
  have HL := Lib.hid hL
  have HC : Hid (∀ p : Int, 0 ≤ p ∧ p < n → Calls Tryd.prog 39 #[.pointer (some ⟨g, 0, none⟩), .int .i64 p] w fun e w' => e = .returned (.bool (takenB sp p)) ∧ w = w') := fun p hp => taken_any g sb n c mv lv sp p w hg hs hl hp
  have HR : Hid (∀ i, i < m → 0 ≤ ix l i ∧ ix l i < n) := fun i hi => hr _ (ix_mem (by omega))
  clear hL hg hs hr
  go_enter Tryd.func47, Tryd.ntmps47
  go_wp2_with fail
  go_loopw [5, 8] (fun v5 v8 wr => ∃ i : Nat, v8 = .int .i64 i ∧ i ≤ m ∧ w = wr ∧ Hid (∀ j, j < i → takenB sp (ix l j) = false)) (fun _ v8 _ => m - (intOf v8).toNat)
  case atStart => exact ⟨0, rfl, Nat.zero_le _, rfl, fun j hj => by omega⟩
  case round =>
    obtain ⟨i, rfl, hi, rfl, HW⟩ := hrel
    by_cases hlt : i < m
    · obtain ⟨b, o, rfl, c0⟩ := HL.out.2 i hlt
      go_wp2_with fail
      refine (HC.out _ (HR.out i hlt)).mono ?_
      rintro e w' ⟨rfl, rfl⟩
      cases ht : takenB sp (ix l i)
      · have HT := Lib.hid ht
        clear ht
        go_wp2_with fail
        refine ⟨⟨i + 1, by go_num, hlt, trivial, fun j hj => ?_⟩, by simp [intOf]; omega⟩
        by_cases e : j = i
        · rw [e]; exact HT.out
        · exact HW.out j (by omega)
      · have HA : Hid (l.any (takenB sp) = true) := any_take (by omega) ht
        clear ht
        go_wp2_with fail
        go_ret
        exact ⟨i, rfl, by rw [HA.out]; simp, rfl⟩
    · have HA : Hid (l.any (takenB sp) = false) := any_none (fun j hj => HW.out j (by omega))
      go_wp2_with fail
      go_ret
      exact ⟨-1, rfl, by rw [HA.out]; rfl, rfl⟩

theorem contains_any (g sb n c : Nat) (mv lv : Value) (sp : List SpT) (l : List Int) (pa : Option Addr) (m mc : Nat) (w : World)
    (hg : w.heap[g]? = some (.cells #[mv, .slice (some ⟨sb, 0, none⟩) n c, lv] 63 (0, 0))) (hs : RecRow SpE w sb 35 sp) (hl : sp.length = n) (hm : m ≤ 4000)
    (hr : ∀ p ∈ l, 0 ≤ p ∧ p < n) (hL : Ints w pa m l) :
    Calls Tryd.prog 38 #[.slice pa m mc, .func (.func 39) #[.pointer (some ⟨g, 0, none⟩)] #[]] w fun e w' => e = .returned (.bool (l.any (takenB sp))) ∧ w = w' := by
  have HC := Lib.hid (index_any g sb n c mv lv sp l pa m mc w hg hs hl hm hr hL)
  clear hg hs hl hr hL
  go_enter Tryd.func38, Tryd.ntmps38
  go_wp2_with fail
  refine HC.out.mono ?_
  rintro e w' ⟨r, rfl, hr, rfl⟩
  go_wp2_with fail
  go_ret
  exact ⟨by rw [← hr]; rfl, rfl⟩
end Go.Proofs.YtkdbenoleendcaaDoor
