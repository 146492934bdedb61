/- ledger: the comparison of postings: the walks. -/
import Derived.Laws.Cover1
import Derived.Test.YtafhdpalobalkaaLB1
namespace Go.Proofs.Ytafhdpalobalkaa
open Go.RowKit Go.IntWalk

theorem nanI_any (k : Int) (w : World) : Calls Try.prog 52 #[.int .i64 k] w fun e w' => e = .returned (.bool false) ∧ w = w' := by
  go_enter Try.func52, Try.ntmps52
  go_wp2_with fail
  go_ret
  exact ⟨rfl, rfl⟩

theorem nanS_any (t : Name) (w : World) : Calls Try.prog 53 #[.string (bs t)] w fun e w' => e = .returned (.bool false) ∧ w = w' := by
  go_enter Try.func53, Try.ntmps53
  go_wp2_with fail
  go_ret
  exact ⟨by simp, rfl⟩

/-- cmp.Compare of integers, of names. -/
def cmpI (a b : Int) : Int := if a < b then -1 else if b < a then 1 else 0
def cmpN (s t : Name) : Int := if Op.bytesLess s t = true then -1 else if Op.bytesLess t s = true then 1 else 0

set_option maxRecDepth 10000 in
theorem cmpI_any (a b : Int) (w : World) : Calls Try.prog 40 #[.int .i64 a, .int .i64 b] w fun e w' => e = .returned (.int .i64 (cmpI a b)) ∧ w = w' := by
  have HV : Hid (cmpI a b = if a < b then -1 else if b < a then 1 else 0) := rfl
  by_cases h1 : a < b
  · rw [if_pos h1] at HV
    go_enter Try.func40, Try.ntmps40
    go_wp2_with fail
    change Calls Try.prog 52 _ _ _
    refine (nanI_any _ _).mono ?_
    rintro e w2 ⟨rfl, rfl⟩
    go_wp2_with fail
    change Calls Try.prog 52 _ _ _
    refine (nanI_any _ _).mono ?_
    rintro e w2 ⟨rfl, rfl⟩
    go_wp2_with fail
    go_ret
    exact ⟨by rw [HV.out]; rfl, rfl⟩
  · rw [if_neg h1] at HV
    by_cases h2 : b < a
    · rw [if_pos h2] at HV
      go_enter Try.func40, Try.ntmps40
      go_wp2_with fail
      change Calls Try.prog 52 _ _ _
      refine (nanI_any _ _).mono ?_
      rintro e w2 ⟨rfl, rfl⟩
      go_wp2_with fail
      change Calls Try.prog 52 _ _ _
      refine (nanI_any _ _).mono ?_
      rintro e w2 ⟨rfl, rfl⟩
      go_wp2_with fail
      go_ret
      exact ⟨by rw [HV.out]; rfl, rfl⟩
    · rw [if_neg h2] at HV
      go_enter Try.func40, Try.ntmps40
      go_wp2_with fail
      change Calls Try.prog 52 _ _ _
      refine (nanI_any _ _).mono ?_
      rintro e w2 ⟨rfl, rfl⟩
      go_wp2_with fail
      change Calls Try.prog 52 _ _ _
      refine (nanI_any _ _).mono ?_
      rintro e w2 ⟨rfl, rfl⟩
      go_wp2_with fail
      go_ret
      exact ⟨by rw [HV.out]; rfl, rfl⟩

theorem nl_asym {a b : Name} (h : Op.bytesLess a b = true) : Op.bytesLess b a = false := by
  cases hh : Op.bytesLess b a
  · rfl
  · have := nl_trans h hh
    rw [nl_irrefl] at this
    exact this.symm

set_option maxRecDepth 10000 in
theorem cmpN_any (a b : Name) (w : World) : Calls Try.prog 41 #[.string (bs a), .string (bs b)] w fun e w' => e = .returned (.int .i64 (cmpN a b)) ∧ w = w' := by
  have HV : Hid (cmpN a b = if Op.bytesLess a b = true then -1 else if Op.bytesLess b a = true then 1 else 0) := rfl
  have hs1 := bs_toList a
  have hs2 := bs_toList b
  by_cases hab : a = b
  · subst hab
    have h1 := nl_irrefl a
    have h3 : (a == a) = true := by simp
    rw [h1] at HV
    go_enter Try.func41, Try.ntmps41
    go_wp2_with fail
    change Calls Try.prog 53 _ _ _
    refine (nanS_any _ _).mono ?_
    rintro e w2 ⟨rfl, rfl⟩
    go_wp2_with fail
    change Calls Try.prog 53 _ _ _
    refine (nanS_any _ _).mono ?_
    rintro e w2 ⟨rfl, rfl⟩
    go_wp2_with fail
    go_ret
    exact ⟨by rw [HV.out]; rfl, rfl⟩
  · have h3 : (a == b) = false := by simp [hab]
    rcases nl_total hab with h1 | h1
    · rw [h1] at HV
      clear hab
      go_enter Try.func41, Try.ntmps41
      go_wp2_with fail
      change Calls Try.prog 53 _ _ _
      refine (nanS_any _ _).mono ?_
      rintro e w2 ⟨rfl, rfl⟩
      go_wp2_with fail
      change Calls Try.prog 53 _ _ _
      refine (nanS_any _ _).mono ?_
      rintro e w2 ⟨rfl, rfl⟩
      go_wp2_with fail
      go_ret
      exact ⟨by rw [HV.out]; rfl, rfl⟩
    · have h2 := nl_asym h1
      rw [h1, h2] at HV
      clear hab
      go_enter Try.func41, Try.ntmps41
      go_wp2_with fail
      change Calls Try.prog 53 _ _ _
      refine (nanS_any _ _).mono ?_
      rintro e w2 ⟨rfl, rfl⟩
      go_wp2_with fail
      change Calls Try.prog 53 _ _ _
      refine (nanS_any _ _).mono ?_
      rintro e w2 ⟨rfl, rfl⟩
      go_wp2_with fail
      go_ret
      exact ⟨by rw [HV.out]; rfl, rfl⟩

/-- cmp.Or of two. -/
def orI (a b : Int) : Int := if a = 0 then b else a

set_option maxRecDepth 10000 in
theorem or_any (a b : Int) (g c : Nat) (w : World) (hg : w.heap[g]? = some (.cells #[.int .i64 a, .int .i64 b] 3 (0, 0))) : Calls Try.prog 39 #[.slice (some ⟨g, 0, none⟩) 2 c] w fun e w' => e = .returned (.int .i64 (orI a b)) ∧ w = w' := by
  have x0 : w.cell? ⟨g, 0, none⟩ = some (.int .i64 a) := by rw [cell_of_row _ _ _ _ _ _ hg]; rfl
  have x1 : w.cell? ⟨g, 1, none⟩ = some (.int .i64 b) := by rw [cell_of_row _ _ _ _ _ _ hg]; rfl
  have HV : Hid (orI a b = if a = 0 then b else a) := rfl
  clear hg
  go_enter Try.func39, Try.ntmps39
  go_wp2_with fail
  go_loopw [8] (fun v8 wr => ∃ i : Nat, v8 = .int .i64 i ∧ w = wr ∧ i ≤ 2 ∧ Hid ((0 < i → a = 0) ∧ (1 < i → b = 0))) (fun v8 _ => 2 - (intOf v8).toNat)
  case atStart => exact ⟨0, rfl, rfl, by omega, fun h => by omega, fun h => by omega⟩
  case round =>
    obtain ⟨i, rfl, rfl, hi, HI⟩ := hrel
    have h3 : i = 0 ∨ i = 1 ∨ i = 2 := by omega
    rcases h3 with rfl | rfl | rfl
    · by_cases h : a = 0
      · have HA := Lib.hid h
        rw [if_pos h] at HV
        clear hi
        subst h
        go_wp2_with fail
        go_roundw
        case rel => exact ⟨1, by go_num, trivial, by omega, fun _ => trivial, fun h => by omega⟩
        case measure => simp [intOf]
      · rw [if_neg h] at HV
        go_wp2_with fail
        go_ret
        exact ⟨by rw [HV.out]; rfl, rfl⟩
    · have HA := Lib.hid (HI.out.1 (by omega))
      rw [if_pos HA.out] at HV
      by_cases h : b = 0
      · have HB := Lib.hid h
        clear hi
        subst h
        go_wp2_with fail
        go_roundw
        case rel => exact ⟨2, by go_num, trivial, by omega, fun _ => HA.out, fun _ => trivial⟩
        case measure => simp [intOf]
      · go_wp2_with fail
        go_ret
        exact ⟨by rw [HV.out]; rfl, rfl⟩
    · have HB := Lib.hid (HI.out.2 (by omega))
      rw [if_pos (HI.out.1 (by omega))] at HV
      go_wp2_with fail
      go_ret
      exact ⟨by rw [HV.out, HB.out]; rfl, rfl⟩
end Go.Proofs.Ytafhdpalobalkaa
