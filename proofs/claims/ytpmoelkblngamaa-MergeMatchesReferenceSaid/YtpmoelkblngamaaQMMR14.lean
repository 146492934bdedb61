/- merge: the comparisons of scans and of blames: the walks. -/
import Derived.Test.YtpmoelkblngamaaQMMR13

namespace Go.Proofs.Ytpmoelkblngamaa
open Go.RowKit Go.IntWalk

theorem nanI_any (k : Int) (w : World) : Calls Try.prog 56 #[.int .i64 k] w fun e w' => e = .returned (.bool false) ∧ w = w' := by
  go_enter Try.func56, Try.ntmps56
  go_wp2_with fail
  go_ret
  exact ⟨rfl, rfl⟩

theorem nanS_any (t : Name) (w : World) : Calls Try.prog 69 #[.string (bs t)] w fun e w' => e = .returned (.bool false) ∧ w = w' := by
  go_enter Try.func69, Try.ntmps69
  go_wp2_with fail
  go_ret
  exact ⟨by simp, rfl⟩

set_option maxRecDepth 10000 in
theorem cmpI_any (a b : Int) (w : World) : Calls Try.prog 42 #[.int .i64 a, .int .i64 b] w fun e w' => e = .returned (.int .i64 (cmpI a b)) ∧ w = w' := by
  have HV : Hid (cmpI a b = if a < b then -1 else if b < a then 1 else 0) := rfl
  by_cases h1 : a < b
  · rw [if_pos h1] at HV
    go_enter Try.func42, Try.ntmps42
    go_wp2_with fail
    change Calls Try.prog 56 _ _ _
    refine (nanI_any _ _).mono ?_
    rintro e w2 ⟨rfl, rfl⟩
    go_wp2_with fail
    change Calls Try.prog 56 _ _ _
    refine (nanI_any _ _).mono ?_
    rintro e w2 ⟨rfl, rfl⟩
    go_wp2_with fail
    go_ret
    exact ⟨by rw [HV.out]; rfl, rfl⟩
  · rw [if_neg h1] at HV
    by_cases h2 : b < a
    · rw [if_pos h2] at HV
      go_enter Try.func42, Try.ntmps42
      go_wp2_with fail
      change Calls Try.prog 56 _ _ _
      refine (nanI_any _ _).mono ?_
      rintro e w2 ⟨rfl, rfl⟩
      go_wp2_with fail
      change Calls Try.prog 56 _ _ _
      refine (nanI_any _ _).mono ?_
      rintro e w2 ⟨rfl, rfl⟩
      go_wp2_with fail
      go_ret
      exact ⟨by rw [HV.out]; rfl, rfl⟩
    · rw [if_neg h2] at HV
      go_enter Try.func42, Try.ntmps42
      go_wp2_with fail
      change Calls Try.prog 56 _ _ _
      refine (nanI_any _ _).mono ?_
      rintro e w2 ⟨rfl, rfl⟩
      go_wp2_with fail
      change Calls Try.prog 56 _ _ _
      refine (nanI_any _ _).mono ?_
      rintro e w2 ⟨rfl, rfl⟩
      go_wp2_with fail
      go_ret
      exact ⟨by rw [HV.out]; rfl, rfl⟩

set_option maxRecDepth 10000 in
theorem cmpN_any (a b : Name) (w : World) : Calls Try.prog 52 #[.string (bs a), .string (bs b)] w fun e w' => e = .returned (.int .i64 (cmpN a b)) ∧ w = w' := by
  have HV : Hid (cmpN a b = if Op.bytesLess a b = true then -1 else if Op.bytesLess b a = true then 1 else 0) := rfl
  have hs1 := bs_toList a
  have hs2 := bs_toList b
  by_cases hab : a = b
  · subst hab
    have h1 := nl_irrefl a
    have h3 : (a == a) = true := by simp
    rw [h1] at HV
    go_enter Try.func52, Try.ntmps52
    go_wp2_with fail
    change Calls Try.prog 69 _ _ _
    refine (nanS_any _ _).mono ?_
    rintro e w2 ⟨rfl, rfl⟩
    go_wp2_with fail
    change Calls Try.prog 69 _ _ _
    refine (nanS_any _ _).mono ?_
    rintro e w2 ⟨rfl, rfl⟩
    go_wp2_with fail
    go_ret
    exact ⟨by rw [HV.out]; rfl, rfl⟩
  · have h3 : (a == b) = false := by simp [hab]
    rcases nl_total hab with h1 | h1
    · rw [h1] at HV
      clear hab
      go_enter Try.func52, Try.ntmps52
      go_wp2_with fail
      change Calls Try.prog 69 _ _ _
      refine (nanS_any _ _).mono ?_
      rintro e w2 ⟨rfl, rfl⟩
      go_wp2_with fail
      change Calls Try.prog 69 _ _ _
      refine (nanS_any _ _).mono ?_
      rintro e w2 ⟨rfl, rfl⟩
      go_wp2_with fail
      go_ret
      exact ⟨by rw [HV.out]; rfl, rfl⟩
    · have h2 := nl_asym h1
      rw [h1, h2] at HV
      clear hab
      go_enter Try.func52, Try.ntmps52
      go_wp2_with fail
      change Calls Try.prog 69 _ _ _
      refine (nanS_any _ _).mono ?_
      rintro e w2 ⟨rfl, rfl⟩
      go_wp2_with fail
      change Calls Try.prog 69 _ _ _
      refine (nanS_any _ _).mono ?_
      rintro e w2 ⟨rfl, rfl⟩
      go_wp2_with fail
      go_ret
      exact ⟨by rw [HV.out]; rfl, rfl⟩

/-- cmp.Or. -/
theorem or_ix {L : List Int} : ∀ {i : Nat}, (∀ j, j < i → ix L j = 0) → (h : i < L.length) → ix L i ≠ 0 → orL L = ix L i := by
  induction L with
  | nil => intro i _ h; exact absurd h (Nat.not_lt_zero _)
  | cons a L ih =>
    intro i h0 h hne
    unfold orL
    cases i with
    | zero =>
      have : ix (a :: L) 0 = a := rfl
      rw [this] at hne ⊢
      rw [if_neg hne]
    | succ i =>
      have ha : a = 0 := h0 0 (Nat.succ_pos _)
      rw [if_pos ha]
      exact ih (fun j hj => h0 (j + 1) (by omega)) (by simpa using h) hne
theorem or_zero {L : List Int} : (∀ j, j < L.length → ix L j = 0) → orL L = 0 := by
  induction L with
  | nil => intro _; rfl
  | cons a L ih =>
    intro h0
    have ha : a = 0 := h0 0 (by simp)
    unfold orL
    rw [if_pos ha]
    exact ih fun j hj => h0 (j + 1) (by simpa using hj)

set_option maxRecDepth 10000 in
theorem or_any (L : List Int) (g n c : Nat) (w : World) (hn : L.length = n) (hb : n ≤ 100) (hg : IntRow w g 3 L) : Calls Try.prog 41 #[.slice (some ⟨g, 0, none⟩) n c] w fun e w' => e = .returned (.int .i64 (orL L)) ∧ w = w' := by
  have HG := Lib.hid hg
  have HN := Lib.hid hn
  clear hg hn
  go_enter Try.func41, Try.ntmps41
  go_wp2_with fail
  go_loopw [8] (fun v8 wr => ∃ i : Nat, v8 = .int .i64 i ∧ w = wr ∧ i ≤ n ∧ Hid (∀ j, j < i → ix L j = 0)) (fun v8 _ => n - (intOf v8).toNat)
  case atStart => exact ⟨0, rfl, rfl, Nat.zero_le _, fun j hj => absurd hj (Nat.not_lt_zero _)⟩
  case round =>
    obtain ⟨i, rfl, rfl, hi, HI⟩ := hrel
    by_cases hlt : i < n
    · have hiL : i < L.length := by rw [HN.out]; exact hlt
      have c0 := HG.out.cell i hiL
      have HNX : Hid (ix L i = 0 → ∀ j, j < i + 1 → ix L j = 0) := fun e j hj => by
        by_cases h : j = i
        · rw [h]; exact e
        · exact HI.out j (by omega)
      have HRT : Hid (ix L i ≠ 0 → orL L = ix L i) := fun h => or_ix HI.out hiL h
      clear hiL HI
      generalize ix L i = x at *
      by_cases hx : x = 0
      · have HN2 := Lib.hid (HNX.out hx)
        have hb0 : (x != 0) = false := by simp [hx]
        clear hx HNX HRT
        go_wp2_with fail
        go_roundw
        case rel => exact ⟨i + 1, by go_num, trivial, hlt, HN2⟩
        case measure => simp [intOf]; omega
      · have HR := Lib.hid (HRT.out hx)
        have hb0 : (x != 0) = true := by simp [hx]
        clear HNX HRT
        go_wp2_with fail
        go_ret
        exact ⟨by rw [HR.out]; rfl, rfl⟩
    · have hi' : i = n := by omega
      subst hi'
      have HR : Hid (orL L = 0) := or_zero fun j hj => HI.out j (by rw [← HN.out]; exact hj)
      go_wp2_with fail
      go_ret
      exact ⟨by rw [HR.out]; rfl, rfl⟩

open Go.Sort Go.Proofs in
theorem grow_3 (w : World) (a b c : Obj) : (((w.alloc a).alloc b).alloc c).drew = Go.Sort.grow (w.drewN 1) (#[a] ++ #[b] ++ #[c]) := by
  rw [alloc_eq_grow, alloc_eq_grow, alloc_eq_grow, grow_grow, grow_grow]
  rfl

set_option maxRecDepth 10000 in
set_option maxHeartbeats 800000 in
theorem order_any (x y : Scn) (w : World) : Calls Try.prog 30 #[.agg (ScnE.cells x).toArray, .agg (ScnE.cells y).toArray] w fun e w' => e = .returned (.int .i64 (cfS x y)) ∧ ∃ q os', w' = Go.Sort.grow (w.drewN q) os' := by
  show Calls _ _ #[.agg #[.int .i64 x.gate, .int .i64 x.number, .int .i64 x.time, .int .i64 x.serial, .int .i64 x.kind, .string (bs x.owner)], .agg #[.int .i64 y.gate, .int .i64 y.number, .int .i64 y.time, .int .i64 y.serial, .int .i64 y.kind, .string (bs y.owner)]] _ _
  have HV : Hid (cfS x y = orL [cmpI x.time y.time, cmpI x.gate y.gate, cmpI x.number y.number, cmpI x.serial y.serial, cmpI x.kind y.kind, cmpN x.owner y.owner]) := rfl
  obtain ⟨w1, hw1⟩ : ∃ w1, w1 = (w.alloc (.cells #[.int .i64 x.gate, .int .i64 x.number, .int .i64 x.time, .int .i64 x.serial, .int .i64 x.kind, .string (bs x.owner)] 39)).alloc (.cells #[.int .i64 y.gate, .int .i64 y.number, .int .i64 y.time, .int .i64 y.serial, .int .i64 y.kind, .string (bs y.owner)] 39) := ⟨_, rfl⟩
  have b2 := Joins.below_alloc1 (w.alloc (.cells #[.int .i64 x.gate, .int .i64 x.number, .int .i64 x.time, .int .i64 x.serial, .int .i64 x.kind, .string (bs x.owner)] 39)) (.cells #[.int .i64 y.gate, .int .i64 y.number, .int .i64 y.time, .int .i64 y.serial, .int .i64 y.kind, .string (bs y.owner)] 39)
  have n2 := World.alloc_heap_new (w.alloc (.cells #[.int .i64 x.gate, .int .i64 x.number, .int .i64 x.time, .int .i64 x.serial, .int .i64 x.kind, .string (bs x.owner)] 39)) (.cells #[.int .i64 y.gate, .int .i64 y.number, .int .i64 y.time, .int .i64 y.serial, .int .i64 y.kind, .string (bs y.owner)] 39)
  rw [show (w.alloc (.cells #[.int .i64 x.gate, .int .i64 x.number, .int .i64 x.time, .int .i64 x.serial, .int .i64 x.kind, .string (bs x.owner)] 39)).heap.size = w.heap.size + 1 from by simp] at n2
  have n1 := (b2.block w.heap.size (by simp)).trans (World.alloc_heap_new w (.cells #[.int .i64 x.gate, .int .i64 x.number, .int .i64 x.time, .int .i64 x.serial, .int .i64 x.kind, .string (bs x.owner)] 39))
  rw [← hw1] at n1 n2
  have x0 : w1.cell? ⟨w.heap.size, 0, none⟩ = some (.int .i64 x.gate) := by rw [cell_of_row _ _ _ _ _ _ n1]; rfl
  have y0 : w1.cell? ⟨w.heap.size + 1, 0, none⟩ = some (.int .i64 y.gate) := by rw [cell_of_row _ _ _ _ _ _ n2]; rfl
  have x1 : w1.cell? ⟨w.heap.size, 1, none⟩ = some (.int .i64 x.number) := by rw [cell_of_row _ _ _ _ _ _ n1]; rfl
  have y1 : w1.cell? ⟨w.heap.size + 1, 1, none⟩ = some (.int .i64 y.number) := by rw [cell_of_row _ _ _ _ _ _ n2]; rfl
  have x2 : w1.cell? ⟨w.heap.size, 2, none⟩ = some (.int .i64 x.time) := by rw [cell_of_row _ _ _ _ _ _ n1]; rfl
  have y2 : w1.cell? ⟨w.heap.size + 1, 2, none⟩ = some (.int .i64 y.time) := by rw [cell_of_row _ _ _ _ _ _ n2]; rfl
  have x3 : w1.cell? ⟨w.heap.size, 3, none⟩ = some (.int .i64 x.serial) := by rw [cell_of_row _ _ _ _ _ _ n1]; rfl
  have y3 : w1.cell? ⟨w.heap.size + 1, 3, none⟩ = some (.int .i64 y.serial) := by rw [cell_of_row _ _ _ _ _ _ n2]; rfl
  have x4 : w1.cell? ⟨w.heap.size, 4, none⟩ = some (.int .i64 x.kind) := by rw [cell_of_row _ _ _ _ _ _ n1]; rfl
  have y4 : w1.cell? ⟨w.heap.size + 1, 4, none⟩ = some (.int .i64 y.kind) := by rw [cell_of_row _ _ _ _ _ _ n2]; rfl
  have x5 : w1.cell? ⟨w.heap.size, 5, none⟩ = some (.string (bs x.owner)) := by rw [cell_of_row _ _ _ _ _ _ n1]; rfl
  have y5 : w1.cell? ⟨w.heap.size + 1, 5, none⟩ = some (.string (bs y.owner)) := by rw [cell_of_row _ _ _ _ _ _ n2]; rfl
  clear b2 n1 n2
  have HW1 : Hid (∀ o : Obj, ∃ q os', (w1.alloc o).drew = Go.Sort.grow (w.drewN q) os') := fun o => ⟨1, _, by rw [hw1]; exact grow_3 w _ _ o⟩
  go_enter Try.func30, Try.ntmps30
  go_upto_region 1 with fail
  rw [← hw1]
  clear hw1
  go_still_tail 30, (by kernel_rfl)
  still_call ((cmpI_any x.time y.time _).mono fun e w' h => ⟨h.1, h.2.symm⟩)
  repeat still_step
  still_call ((cmpI_any x.gate y.gate _).mono fun e w' h => ⟨h.1, h.2.symm⟩)
  repeat still_step
  still_call ((cmpI_any x.number y.number _).mono fun e w' h => ⟨h.1, h.2.symm⟩)
  repeat still_step
  still_call ((cmpI_any x.serial y.serial _).mono fun e w' h => ⟨h.1, h.2.symm⟩)
  repeat still_step
  still_call ((cmpI_any x.kind y.kind _).mono fun e w' h => ⟨h.1, h.2.symm⟩)
  repeat still_step
  still_call ((cmpN_any x.owner y.owner _).mono fun e w' h => ⟨h.1, h.2.symm⟩)
  refine wpStill_nil ?_
  change wpList _ _ _ _ _ w1.drew
  go_wp2_with fail
  change Calls Try.prog 41 _ _ _
  refine (or_any [cmpI x.time y.time, cmpI x.gate y.gate, cmpI x.number y.number, cmpI x.serial y.serial, cmpI x.kind y.kind, cmpN x.owner y.owner] w1.heap.size 6 _ _ rfl (by omega) ?_).mono ?_
  · exact ⟨_, World.alloc_heap_new w1.drew _, by simp, fun k hk => by
      have hk : k < 6 := hk
      have : k = 0 ∨ k = 1 ∨ k = 2 ∨ k = 3 ∨ k = 4 ∨ k = 5 := by omega
      rcases this with rfl | rfl | rfl | rfl | rfl | rfl <;> rfl⟩
  rintro e w2 ⟨rfl, rfl⟩
  go_wp2_with fail
  go_ret
  exact ⟨by rw [HV.out]; rfl, HW1.out _⟩

set_option maxRecDepth 10000 in
set_option maxHeartbeats 800000 in
theorem bcmp_any (x y : Blm) (w : World) : Calls Try.prog 40 #[.agg (BlmE.cells x).toArray, .agg (BlmE.cells y).toArray] w fun e w' => e = .returned (.int .i64 (cfB x y)) ∧ ∃ q os', w' = Go.Sort.grow (w.drewN q) os' := by
  show Calls _ _ #[.agg #[.int .i64 x.kind, .int .i64 x.serial, .int .i64 x.gate, .int .i64 x.number, .int .i64 x.other, .int .i64 x.count], .agg #[.int .i64 y.kind, .int .i64 y.serial, .int .i64 y.gate, .int .i64 y.number, .int .i64 y.other, .int .i64 y.count]] _ _
  have HV : Hid (cfB x y = orL [cmpI x.kind y.kind, cmpI x.gate y.gate, cmpI x.number y.number, cmpI x.serial y.serial, cmpI x.other y.other, cmpI x.count y.count]) := rfl
  obtain ⟨w1, hw1⟩ : ∃ w1, w1 = (w.alloc (.cells #[.int .i64 x.kind, .int .i64 x.serial, .int .i64 x.gate, .int .i64 x.number, .int .i64 x.other, .int .i64 x.count] 48)).alloc (.cells #[.int .i64 y.kind, .int .i64 y.serial, .int .i64 y.gate, .int .i64 y.number, .int .i64 y.other, .int .i64 y.count] 48) := ⟨_, rfl⟩
  have b2 := Joins.below_alloc1 (w.alloc (.cells #[.int .i64 x.kind, .int .i64 x.serial, .int .i64 x.gate, .int .i64 x.number, .int .i64 x.other, .int .i64 x.count] 48)) (.cells #[.int .i64 y.kind, .int .i64 y.serial, .int .i64 y.gate, .int .i64 y.number, .int .i64 y.other, .int .i64 y.count] 48)
  have n2 := World.alloc_heap_new (w.alloc (.cells #[.int .i64 x.kind, .int .i64 x.serial, .int .i64 x.gate, .int .i64 x.number, .int .i64 x.other, .int .i64 x.count] 48)) (.cells #[.int .i64 y.kind, .int .i64 y.serial, .int .i64 y.gate, .int .i64 y.number, .int .i64 y.other, .int .i64 y.count] 48)
  rw [show (w.alloc (.cells #[.int .i64 x.kind, .int .i64 x.serial, .int .i64 x.gate, .int .i64 x.number, .int .i64 x.other, .int .i64 x.count] 48)).heap.size = w.heap.size + 1 from by simp] at n2
  have n1 := (b2.block w.heap.size (by simp)).trans (World.alloc_heap_new w (.cells #[.int .i64 x.kind, .int .i64 x.serial, .int .i64 x.gate, .int .i64 x.number, .int .i64 x.other, .int .i64 x.count] 48))
  rw [← hw1] at n1 n2
  have x0 : w1.cell? ⟨w.heap.size, 0, none⟩ = some (.int .i64 x.kind) := by rw [cell_of_row _ _ _ _ _ _ n1]; rfl
  have y0 : w1.cell? ⟨w.heap.size + 1, 0, none⟩ = some (.int .i64 y.kind) := by rw [cell_of_row _ _ _ _ _ _ n2]; rfl
  have x1 : w1.cell? ⟨w.heap.size, 1, none⟩ = some (.int .i64 x.serial) := by rw [cell_of_row _ _ _ _ _ _ n1]; rfl
  have y1 : w1.cell? ⟨w.heap.size + 1, 1, none⟩ = some (.int .i64 y.serial) := by rw [cell_of_row _ _ _ _ _ _ n2]; rfl
  have x2 : w1.cell? ⟨w.heap.size, 2, none⟩ = some (.int .i64 x.gate) := by rw [cell_of_row _ _ _ _ _ _ n1]; rfl
  have y2 : w1.cell? ⟨w.heap.size + 1, 2, none⟩ = some (.int .i64 y.gate) := by rw [cell_of_row _ _ _ _ _ _ n2]; rfl
  have x3 : w1.cell? ⟨w.heap.size, 3, none⟩ = some (.int .i64 x.number) := by rw [cell_of_row _ _ _ _ _ _ n1]; rfl
  have y3 : w1.cell? ⟨w.heap.size + 1, 3, none⟩ = some (.int .i64 y.number) := by rw [cell_of_row _ _ _ _ _ _ n2]; rfl
  have x4 : w1.cell? ⟨w.heap.size, 4, none⟩ = some (.int .i64 x.other) := by rw [cell_of_row _ _ _ _ _ _ n1]; rfl
  have y4 : w1.cell? ⟨w.heap.size + 1, 4, none⟩ = some (.int .i64 y.other) := by rw [cell_of_row _ _ _ _ _ _ n2]; rfl
  have x5 : w1.cell? ⟨w.heap.size, 5, none⟩ = some (.int .i64 x.count) := by rw [cell_of_row _ _ _ _ _ _ n1]; rfl
  have y5 : w1.cell? ⟨w.heap.size + 1, 5, none⟩ = some (.int .i64 y.count) := by rw [cell_of_row _ _ _ _ _ _ n2]; rfl
  clear b2 n1 n2
  have HW1 : Hid (∀ o : Obj, ∃ q os', (w1.alloc o).drew = Go.Sort.grow (w.drewN q) os') := fun o => ⟨1, _, by rw [hw1]; exact grow_3 w _ _ o⟩
  go_enter Try.func40, Try.ntmps40
  go_upto_region 1 with fail
  rw [← hw1]
  clear hw1
  go_still_tail 30, (by kernel_rfl)
  still_call ((cmpI_any x.kind y.kind _).mono fun e w' h => ⟨h.1, h.2.symm⟩)
  repeat still_step
  still_call ((cmpI_any x.gate y.gate _).mono fun e w' h => ⟨h.1, h.2.symm⟩)
  repeat still_step
  still_call ((cmpI_any x.number y.number _).mono fun e w' h => ⟨h.1, h.2.symm⟩)
  repeat still_step
  still_call ((cmpI_any x.serial y.serial _).mono fun e w' h => ⟨h.1, h.2.symm⟩)
  repeat still_step
  still_call ((cmpI_any x.other y.other _).mono fun e w' h => ⟨h.1, h.2.symm⟩)
  repeat still_step
  still_call ((cmpI_any x.count y.count _).mono fun e w' h => ⟨h.1, h.2.symm⟩)
  refine wpStill_nil ?_
  change wpList _ _ _ _ _ w1.drew
  go_wp2_with fail
  change Calls Try.prog 41 _ _ _
  refine (or_any [cmpI x.kind y.kind, cmpI x.gate y.gate, cmpI x.number y.number, cmpI x.serial y.serial, cmpI x.other y.other, cmpI x.count y.count] w1.heap.size 6 _ _ rfl (by omega) ?_).mono ?_
  · exact ⟨_, World.alloc_heap_new w1.drew _, by simp, fun k hk => by
      have hk : k < 6 := hk
      have : k = 0 ∨ k = 1 ∨ k = 2 ∨ k = 3 ∨ k = 4 ∨ k = 5 := by omega
      rcases this with rfl | rfl | rfl | rfl | rfl | rfl <;> rfl⟩
  rintro e w2 ⟨rfl, rfl⟩
  go_wp2_with fail
  go_ret
  exact ⟨by rw [HV.out]; rfl, HW1.out _⟩

end Go.Proofs.Ytpmoelkblngamaa
