/- slices.Clone of a choice of places. -/
import Derived.Test.YtkdbenoleendcaaDoorHI
import Derived.Test.YtkdbenoleendcaaDoorShelf
namespace Go.Proofs.YtkdbenoleendcaaDoor
open Go.RowKit Go.IntWalk Go.Maps Go.WideMaps

theorem IntRow.of_row {w : World} {B n : Nat} {v : Value} {L : List Int} (hn : 0 < n) (h : w.ownsRow B 3 1 v n (L.map (Value.int .i64))) : ∃ g c, v = .slice (some ⟨g, 0, none⟩) n c ∧ B ≤ g ∧ IntRow w g 3 L := by
  have hl : L.length = n := by have := h.1; simpa using this
  rcases h.2 with ⟨_, h0⟩ | ⟨g, cap, cur, rfl, hb, hh, h1, _, h3, h4⟩
  · omega
  · have hsz : n ≤ cur.size := by
      have := congrArg List.length h4
      rw [List.length_take, List.length_map, hl] at this
      have h5 : cur.toList.length = cur.size := by simp
      omega
    refine ⟨g, cap, rfl, hb, cur, hh, by omega, fun k hk => ?_⟩
    have h5 : (cur.toList.take (n * 1))[k]? = (L.map (Value.int .i64))[k]? := by rw [h4]
    rw [List.getElem?_take_of_lt (by omega)] at h5
    simp only [Array.getElem?_toList, List.getElem?_map] at h5
    rw [h5]
    simp [ix, List.getD_eq_getElem?_getD, hk]

theorem clone_any (l : List Int) (pa : Option Addr) (m mc : Nat) (w : World) (hm : m ≤ 4000) (h1 : 1 ≤ m) (hL : Ints w pa m l) :
    Calls Tryd.prog 40 #[.slice pa m mc] w fun e w' => ∃ b c, e = .returned (.slice (some ⟨b, 0, none⟩) m c) ∧ w.heap.size ≤ b ∧ IntRow w' b 3 l ∧ Below w.heap.size w w' := by
  obtain ⟨b, o, rfl, _⟩ := hL.2 0 (by omega)
  refine (Tryd.slices_Clone_int b o m mc l w (by rw [hL.1]; exact Nat.le_refl _) (by omega) (fun j hj => ?_)).mono ?_
  · obtain ⟨b', o', e, c⟩ := hL.2 j (by rw [← hL.1]; exact hj)
    cases e
    exact c
  · rintro e w' ⟨v, rfl, ho, _, hb⟩
    rw [List.take_of_length_le (by rw [hL.1]; exact Nat.le_refl _)] at ho
    obtain ⟨g, c, rfl, hg, hr⟩ := IntRow.of_row (by omega) ho
    exact ⟨g, c, rfl, hg, hr, hb⟩
end Go.Proofs.YtkdbenoleendcaaDoor
