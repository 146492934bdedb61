/- Means in memory; their totals: the walks. -/
import Derived.Test.YtgpmhaeiccljaaaDoorLPP
import Derived.Test.YtgpmhaeiccljaaaDoorRec
import Derived.Test.YtgpmhaeiccljaaaDoorBs
import Derived.Test.YtgpmhaeiccljaaaDoorMB
namespace Go.Proofs.YtgpmhaeiccljaaaDoor
open Go.RowKit Go.IntWalk

/-- A means in memory: two cells. -/
def MeanE : Enc MeanT 2 := ⟨fun x => [.string (bs x.1), .int .i64 x.2], fun _ => rfl, fun x v hv => by
  simp only [List.mem_cons, List.not_mem_nil, or_false] at hv
  rcases hv with rfl | rfl <;> rfl, by decide⟩

theorem mean_c0 {l : List MeanT} (i : Nat) (h : i < l.length) : rc MeanE l i 0 = .string (bs (nm l i)) := by rw [rc_eq _ _ h, nm_eq _ _ h]; rfl
theorem mean_c1 {l : List MeanT} (i : Nat) (h : i < l.length) : rc MeanE l i 1 = .int .i64 (am l i) := by rw [rc_eq _ _ h, am_eq _ _ h]; rfl

/-- The address and length read as the means l. -/
abbrev Means (w : World) (ra : Option Addr) (n : Nat) (l : List MeanT) : Prop := Recs MeanE w ra n l

theorem Means.at {w : World} {ra : Option Addr} {n : Nat} {l : List MeanT} (h : Means w ra n l) (i : Nat) (hi : i < n) : ∃ b o, ra = some ⟨b, o, none⟩ ∧ w.cell? ⟨b, o + i * 2, none⟩ = some (.string (bs (nm l i))) ∧ w.cell? ⟨b, o + i * 2 + 1, none⟩ = some (.int .i64 (am l i)) := by
  obtain ⟨b, o, e, c⟩ := h.2 i hi
  have hl : i < l.length := by rw [h.1]; exact hi
  exact ⟨b, o, e, by rw [← mean_c0 i hl]; exact c 0 (by omega), by rw [← mean_c1 i hl]; exact c 1 (by omega)⟩

theorem tot_lt {l : List MeanT} (hb : ∀ i, i < l.length → 0 ≤ am l i ∧ am l i ≤ 1000000000) : ∀ i, i ≤ l.length → 0 ≤ totS (l.take i) ∧ totS (l.take i) ≤ 1000000000 * i := by
  intro i
  induction i with
  | zero => intro _; simp [totS]
  | succ i ih =>
    intro h
    rw [tot_take l i (by omega)]
    have := ih (by omega)
    have := hb i (by omega)
    omega

set_option maxRecDepth 10000 in
set_option maxHeartbeats 800000 in
theorem total_any (ra : Option Addr) (n c : Nat) (l : List MeanT) (w : World) (h : Means w ra n l) (hn : n ≤ 30) (hb : ∀ i, i < n → 0 ≤ am l i ∧ am l i ≤ 1000000000) :
    Calls Tryd.prog 39 #[.slice ra n c] w fun e w' => e = .returned (.int .i64 (totS l)) ∧ Below w.heap.size w w' := by
  have HM := Lib.hid h
  have hlen := h.1
  have HB := Lib.hid (tot_lt (l := l) (by rw [hlen]; exact hb))
  have HBB := Lib.hid hb
  clear h hb
  go_enter Tryd.func39, Tryd.ntmps39
  go_wp2_with fail
  go_loopw [3, 8] (fun v3 v8 wr => ∃ i : Nat, v3 = .int .i64 (totS (l.take i)) ∧ v8 = .int .i64 i ∧ i ≤ n ∧ Hid (Below w.heap.size w wr)) (fun _ v8 _ => n - (intOf v8).toNat)
  case atStart => exact ⟨0, rfl, rfl, Nat.zero_le _, Below.refl _ _⟩
  case round =>
    obtain ⟨i, rfl, rfl, hi, HW⟩ := hrel
    by_cases hlt : i < n
    · obtain ⟨b, o, rfl, c0, c1⟩ := Means.at (HM.out.below HW.out) i hlt
      have h1 := HB.out (i + 1) (by omega)
      rw [tot_take l i (by omega)] at h1
      have h2 := HB.out i (by omega)
      have h3 := HBB.out i hlt
      have HT := Lib.hid (tot_take l i (by omega))
      obtain ⟨s, hs⟩ : ∃ s, totS (l.take i) = s := ⟨_, rfl⟩
      rw [hs] at h1 h2 HT ⊢
      have HS := Lib.hid hs
      clear hs
      go_wp2_with fail
      go_roundw
      case rel => exact ⟨i + 1, by rw [HT.out], by go_num, hlt, HW.out.trans ((Joins.below_alloc1 wr _).mono HW.out.size)⟩
      case measure => simp [intOf]; omega
    · have hi' : i = n := by omega
      subst hi'
      go_wp2_with fail
      go_ret
      exact ⟨by rw [← hlen, List.take_length]; rfl, HW.out⟩

set_option maxRecDepth 10000 in
set_option maxHeartbeats 800000 in
theorem rtotal_any (ra : Option Addr) (n c : Nat) (l : List MeanT) (w : World) (h : Means w ra n l) (hn : n ≤ 30) (hb : ∀ i, i < n → 0 ≤ am l i ∧ am l i ≤ 1000000000) :
    Calls Tryd.prog 21 #[.slice ra n c] w fun e w' => e = .returned (.int .i64 (totS l)) ∧ w = w' := by
  have HM := Lib.hid h
  have hlen := h.1
  have HB := Lib.hid (tot_lt (l := l) (by rw [hlen]; exact hb))
  have HBB := Lib.hid hb
  clear h hb
  go_enter Tryd.func21, Tryd.ntmps21
  go_wp2_with fail
  go_loopw [3, 4] (fun v3 v4 wr => ∃ i : Nat, v3 = .int .i64 (totS (l.take i)) ∧ v4 = .int .i64 i ∧ i ≤ n ∧ w = wr) (fun _ v4 _ => n - (intOf v4).toNat)
  case atStart => exact ⟨0, rfl, rfl, Nat.zero_le _, rfl⟩
  case round =>
    obtain ⟨i, rfl, rfl, hi, rfl⟩ := hrel
    by_cases hlt : i < n
    · obtain ⟨b, o, rfl, c0, c1⟩ := Means.at HM.out i hlt
      have h1 := HB.out (i + 1) (by omega)
      rw [tot_take l i (by omega)] at h1
      have h2 := HB.out i (by omega)
      have h3 := HBB.out i hlt
      have HT := Lib.hid (tot_take l i (by omega))
      obtain ⟨s, hs⟩ : ∃ s, totS (l.take i) = s := ⟨_, rfl⟩
      rw [hs] at h1 h2 HT ⊢
      have HS := Lib.hid hs
      clear hs
      go_wp2_with fail
      go_roundw
      case rel => exact ⟨i + 1, by rw [HT.out], by go_num, hlt, trivial⟩
      case measure => simp [intOf]; omega
    · have hi' : i = n := by omega
      subst hi'
      go_wp2_with fail
      go_ret
      exact ⟨by rw [← hlen, List.take_length]; rfl, rfl⟩
end Go.Proofs.YtgpmhaeiccljaaaDoor
