/- A slice of integers that the call itself makes, by append. -/
import Derived.Test.YtgpmhaeiccljaaaDoorProg
import Derived.Test.YtgpmhaeiccljaaaDoorRow
import Derived.Deep.OwnRows
namespace Go.Proofs.YtgpmhaeiccljaaaDoor
open Go.RowKit

/-- A slice of integers of the call's own: where it has elements it starts a block from B on. -/
def OwnInts (w : World) (B : Nat) (la : Option Addr) (n : Nat) (L : List Int) : Prop :=
  L.length = n ∧ (0 < n → ∃ g, la = some ⟨g, 0, none⟩ ∧ B ≤ g ∧ IntRow w g 3 L)

theorem OwnInts.of_row {w : World} {B n : Nat} {v : Value} {L : List Int} (h : w.ownsRow B 3 1 v n (L.map (Value.int .i64))) : ∃ la c, v = .slice la n c ∧ OwnInts w B la n L := by
  have hl : L.length = n := by have := h.1; simpa using this
  rcases h.2 with ⟨rfl, h0⟩ | ⟨g, cap, cur, rfl, hb, hh, h1, _, h3, h4⟩
  · subst h0; exact ⟨none, 0, rfl, hl, fun h => absurd h (by omega)⟩
  · refine ⟨_, _, rfl, hl, fun _ => ⟨g, rfl, hb, cur, hh, by omega, fun k hk => ?_⟩⟩
    have h5 : (cur.toList.take (n * 1))[k]? = (L.map (Value.int .i64))[k]? := by rw [h4]
    rw [List.getElem?_take_of_lt (by omega)] at h5
    simp only [Array.getElem?_toList, List.getElem?_map] at h5
    rw [h5]
    simp [ix, List.getD_eq_getElem?_getD, hk]

theorem OwnInts.ints {w : World} {B n : Nat} {la : Option Addr} {L : List Int} (h : OwnInts w B la n L) : Ints w la n L := by
  refine ⟨h.1, fun k hk => ?_⟩
  obtain ⟨g, rfl, _, hr⟩ := h.2 (by omega)
  exact ⟨g, 0, rfl, by rw [Nat.zero_add]; exact hr.cell k (by rw [h.1]; exact hk)⟩

theorem Tryd_infoInt : (Tryd.prog.info? 3).map (fun i => (i.zero, i.size, i.bytes)) = some (some (.int .i64 0), 1, 8) := by kernel_rfl

end Go.Proofs.YtgpmhaeiccljaaaDoor
