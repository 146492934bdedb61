/- slices.ContainsFunc with a Holds' own test; slices.Clone of a choice of places; hold: a hold is put into the map. -/
import Derived.Test.YtkdbenoleendcaaGreatDoorQHMB00
import Derived.Test.YtkdbenoleendcaaGreatDoorQHMB21

namespace Go.Proofs.YtkdbenoleendcaaGreatDoor
open Go.RowKit Go.IntWalk Go.Maps Go.WideMaps

theorem any_take {l : List Int} {f : Int → Bool} {i : Nat} (hi : i < l.length) (h : f (ix l i) = true) : l.any f = true := by
  rw [List.any_eq_true]
  exact ⟨ix l i, ix_mem hi, h⟩

theorem any_none {l : List Int} {f : Int → Bool} (h : ∀ j, j < l.length → f (ix l j) = false) : l.any f = false := by
  rw [List.any_eq_false]
  intro x hx
  obtain ⟨j, hj, e⟩ := List.getElem_of_mem hx
  have := h j hj
  rw [ix_get hj, e] at this
  simp [this]

/-- An index at which the test holds, or -1. -/
def IdxPost (l : List Int) (sp : List SpT) (w : World) (e : Ending) (w' : World) : Prop :=
  ∃ r : Int, e = .returned (.int .i64 r) ∧ decide (0 ≤ r) = l.any (takenB sp) ∧ w = w'

set_option maxRecDepth 10000 in
theorem index_any (g sb n c : Nat) (mv lv : Value) (sp : List SpT) (l : List Int) (pa : Option Addr) (m mc : Nat) (w : World)
    (hg : w.heap[g]? = some (.cells #[mv, .slice (some ⟨sb, 0, none⟩) n c, lv] 56 (0, 0))) (hs : RecRow SpE w sb 53 sp) (hl : sp.length = n) (hm : m ≤ 4000)
    (hr : ∀ p ∈ l, 0 ≤ p ∧ p < n) (hL : Ints w pa m l) :
    Calls Tryz.prog 51 #[.slice pa m mc, .func (.func 40) #[.pointer (some ⟨g, 0, none⟩)] #[]] w (IdxPost l sp w) := by
  have hlen := hL.1
  have HL := Lib.hid hL
  have HC : Hid (∀ p : Int, 0 ≤ p ∧ p < n → Calls Tryz.prog 40 #[.pointer (some ⟨g, 0, none⟩), .int .i64 p] w fun e w' => e = .returned (.bool (takenB sp p)) ∧ w = w') := fun p hp => taken_any g sb n c mv lv sp p w hg hs hl hp
  have HR : Hid (∀ i, i < m → 0 ≤ ix l i ∧ ix l i < n) := fun i hi => hr _ (ix_mem (by omega))
  clear hL hg hs hr
  go_enter Tryz.func51, Tryz.ntmps51
  go_wp2_with fail
  go_loopw [5, 8] (fun v5 v8 wr => ∃ i : Nat, v8 = .int .i64 i ∧ i ≤ m ∧ w = wr ∧ Hid (∀ j, j < i → takenB sp (ix l j) = false)) (fun _ v8 _ => m - (intOf v8).toNat)
  case atStart => exact ⟨0, rfl, Nat.zero_le _, rfl, fun j hj => by omega⟩
  case round =>
    obtain ⟨i, rfl, hi, rfl, HW⟩ := hrel
    by_cases hlt : i < m
    · obtain ⟨b, o, rfl, c0⟩ := HL.out.2 i hlt
      go_wp2_with fail
      refine (HC.out _ (HR.out i hlt)).mono ?_
      rintro e w' ⟨rfl, rfl⟩
      cases ht : takenB sp (ix l i)
      · have HT := Lib.hid ht
        clear ht
        go_wp2_with fail
        refine ⟨⟨i + 1, by go_num, hlt, trivial, fun j hj => ?_⟩, by simp [intOf]; omega⟩
        by_cases e : j = i
        · rw [e]; exact HT.out
        · exact HW.out j (by omega)
      · have HA : Hid (l.any (takenB sp) = true) := any_take (by omega) ht
        clear ht
        go_wp2_with fail
        go_ret
        exact ⟨i, rfl, by rw [HA.out]; simp, rfl⟩
    · have HA : Hid (l.any (takenB sp) = false) := any_none (fun j hj => HW.out j (by omega))
      go_wp2_with fail
      go_ret
      exact ⟨-1, rfl, by rw [HA.out]; rfl, rfl⟩

theorem contains_any (g sb n c : Nat) (mv lv : Value) (sp : List SpT) (l : List Int) (pa : Option Addr) (m mc : Nat) (w : World)
    (hg : w.heap[g]? = some (.cells #[mv, .slice (some ⟨sb, 0, none⟩) n c, lv] 56 (0, 0))) (hs : RecRow SpE w sb 53 sp) (hl : sp.length = n) (hm : m ≤ 4000)
    (hr : ∀ p ∈ l, 0 ≤ p ∧ p < n) (hL : Ints w pa m l) :
    Calls Tryz.prog 39 #[.slice pa m mc, .func (.func 40) #[.pointer (some ⟨g, 0, none⟩)] #[]] w fun e w' => e = .returned (.bool (l.any (takenB sp))) ∧ w = w' := by
  have HC := Lib.hid (index_any g sb n c mv lv sp l pa m mc w hg hs hl hm hr hL)
  clear hg hs hl hr hL
  go_enter Tryz.func39, Tryz.ntmps39
  go_wp2_with fail
  refine HC.out.mono ?_
  rintro e w' ⟨r, rfl, hr, rfl⟩
  go_wp2_with fail
  go_ret
  exact ⟨by rw [← hr]; rfl, rfl⟩
end Go.Proofs.YtkdbenoleendcaaGreatDoor

namespace Go.Proofs.YtkdbenoleendcaaGreatDoor
open Go.RowKit Go.IntWalk Go.Maps Go.WideMaps

theorem IntRow.of_row {w : World} {B n : Nat} {v : Value} {L : List Int} (hn : 0 < n) (h : w.ownsRow B 3 1 v n (L.map (Value.int .i64))) : ∃ g c, v = .slice (some ⟨g, 0, none⟩) n c ∧ B ≤ g ∧ IntRow w g 3 L := by
  have hl : L.length = n := by have := h.1; simpa using this
  rcases h.2 with ⟨_, h0⟩ | ⟨g, cap, cur, rfl, hb, hh, h1, _, h3, h4⟩
  · omega
  · have hsz : n ≤ cur.size := by
      have := congrArg List.length h4
      rw [List.length_take, List.length_map, hl] at this
      have h5 : cur.toList.length = cur.size := by simp
      omega
    refine ⟨g, cap, rfl, hb, cur, hh, by omega, fun k hk => ?_⟩
    have h5 : (cur.toList.take (n * 1))[k]? = (L.map (Value.int .i64))[k]? := by rw [h4]
    rw [List.getElem?_take_of_lt (by omega)] at h5
    simp only [Array.getElem?_toList, List.getElem?_map] at h5
    rw [h5]
    simp [ix, List.getD_eq_getElem?_getD, hk]

theorem clone_any (l : List Int) (pa : Option Addr) (m mc : Nat) (w : World) (hm : m ≤ 4000) (h1 : 1 ≤ m) (hL : Ints w pa m l) :
    Calls Tryz.prog 41 #[.slice pa m mc] w fun e w' => ∃ b c, e = .returned (.slice (some ⟨b, 0, none⟩) m c) ∧ w.heap.size ≤ b ∧ IntRow w' b 3 l ∧ Below w.heap.size w w' := by
  obtain ⟨b, o, rfl, _⟩ := hL.2 0 (by omega)
  refine (Tryz.slices_Clone_int b o m mc l w (by rw [hL.1]; exact Nat.le_refl _) (by omega) (fun j hj => ?_)).mono ?_
  · obtain ⟨b', o', e, c⟩ := hL.2 j (by rw [← hL.1]; exact hj)
    cases e
    exact c
  · rintro e w' ⟨v, rfl, ho, _, hb⟩
    rw [List.take_of_length_le (by rw [hL.1]; exact Nat.le_refl _)] at ho
    obtain ⟨g, c, rfl, hg, hr⟩ := IntRow.of_row (by omega) ho
    exact ⟨g, c, rfl, hg, hr, hb⟩
end Go.Proofs.YtkdbenoleendcaaGreatDoor

namespace Go.Proofs.YtkdbenoleendcaaGreatDoor
open Go.RowKit Go.IntWalk Go.Maps Go.WideMaps

theorem store_hold {w : World} {M : Nat} {E : List OwnT} (h : w.ownsMap Tryz.prog 3 RH M E.length (mapH E)) (hE : E.length ≤ 1000) (id : Int) (h0 : 0 ≤ id) (h1 : id ≤ 1000000000) (v : Value) :
    ∃ w', (Instr.mapUpdate 54 (.map (some M)) (.int .i64 id) v).run Tryz.prog w = .ok () w' ∧ w'.ownsMap Tryz.prog 3 RH M (E.length + 1) ((mapH E).put (.int .i64 id) (.held v)) ∧ w.mapTurned w' M :=
  h.store lawI Tryz.underlying54 (by unfold maxLen; omega) (key_int id h0 h1) (d := .held v) (ps := []) rfl
end Go.Proofs.YtkdbenoleendcaaGreatDoor
