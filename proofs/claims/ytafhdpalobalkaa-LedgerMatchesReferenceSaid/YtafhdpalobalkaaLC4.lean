/- ledger: the head of the laws: the walk. -/
import Derived.Deep.RegionWith
import Derived.Test.YtafhdpalobalkaaLC3
namespace Go.Proofs.Ytafhdpalobalkaa
open Go.RowKit Go.IntWalk

set_option maxRecDepth 10000 in
set_option maxHeartbeats 1600000 in
theorem head_any (w : World) : Calls Try.prog 8 #[] w fun e w' => e = .returned (.bool true) ∧ Below w.heap.size w w' := by
  go_enter Try.func8, Try.ntmps8
  go_wp2_with fail
  refine (new_any w).mono ?_
  rintro e w1 ⟨g, rfl, hb1, hl1⟩
  have HB1 := Lib.hid hb1
  have HL1 := Lib.hid hl1
  have hs1 := hb1.size
  clear hb1 hl1
  go_wp2_with fail
  change Calls Try.prog 26 _ _ _
  refine (posting_any 5 cardN (-500) w1).mono ?_
  rintro e w2 ⟨rfl, hb2⟩
  have HB2 := Lib.hid hb2
  have hs2 := hb2.size
  clear hb2
  go_upto_region 3 with fail
  have hb3 := Joins.below_alloc1 w2 (.cells #[.int .i64 5, .string (bs cardN), .int .i64 (-500)] 44)
  have hn3 := World.alloc_heap_new w2 (.cells #[.int .i64 5, .string (bs cardN), .int .i64 (-500)] 44)
  obtain ⟨bx, hbx⟩ : ∃ bx, bx = w2.heap.size := ⟨_, rfl⟩
  generalize w2.alloc (.cells #[.int .i64 5, .string (bs cardN), .int .i64 (-500)] 44) = w3 at *
  have H3 : Hid (HeadSt w w3 g bx []) := ⟨HB1.out.trans ((HB2.out.trans (hb3.mono hs2)).mono hs1), ⟨_, (HL1.out.below HB2.out).below hb3, fun i hi => hi.1, fun hi => by have := hi.2; omega⟩, by rw [hbx]; exact hn3, by omega⟩
  rw [← hbx]
  clear hb3 hn3 hbx HL1 HB1 HB2 hs1 hs2
  go_cut [3] (fun v3 wx => v3 = .int .i64 0 ∧ Hid (HeadSt w wx g bx [hb1]))
  case first =>
    have q0 : w3.cell? ⟨bx, 0, none⟩ = some (.int .i64 5) := by rw [cell_of_row _ _ _ _ _ _ H3.out.box]; rfl
    have q1 : w3.cell? ⟨bx, 1, none⟩ = some (.string (bs cardN)) := by rw [cell_of_row _ _ _ _ _ _ H3.out.box]; rfl
    have q2 : w3.cell? ⟨bx, 2, none⟩ = some (.int .i64 (-500)) := by rw [cell_of_row _ _ _ _ _ _ H3.out.box]; rfl
    have HC : Hid (∀ w4 : World, Below w3.heap.size w3 w4 → Calls Try.prog 12 #[.pointer (some ⟨g, 0, none⟩), .agg #[.int .i64 1, .slice (some ⟨w4.heap.size, 0, none⟩) 2 2]] (w4.alloc (.cells #[.int .i64 5, .string (bs cardN), .int .i64 (-500), .int .i64 1, .string (bs []), .int .i64 500] 44)) fun e w' => e = .returned (.int .i64 0) ∧ HeadSt w w' g bx [hb1]) := fun w4 hb => by
      have hst := (H3.out.step hb).step (Joins.below_alloc1 w4 (.cells #[.int .i64 5, .string (bs cardN), .int .i64 (-500), .int .i64 1, .string (bs []), .int .i64 500] 44))
      have := hst.book 1 (some ⟨w4.heap.size, 0, none⟩) 2 2 [hp1, hp2] (by simp) (by omega) (posts_two (x := hp1) (y := hp2) (World.alloc_heap_new w4 _)) (by decide +kernel)
      rw [show bookE [] (1, [hp1, hp2]) = 0 from head_1] at this
      exact this
    go_region_with (first | (go_at_call 26; refine (posting_any 1 [] 500 _).mono ?_; rintro e w4 ⟨rfl, hb4⟩; have HB4 := Lib.hid (show Below w3.heap.size w3 w4 from ⟨hb4.os, hb4.tape, hb4.output, hb4.size, hb4.block⟩); have q0' := Below.cell_of hb4 q0; have q1' := Below.cell_of hb4 q1; have q2' := Below.cell_of hb4 q2; clear hb4) | (go_at_call 12; refine (HC.out _ HB4.out).mono ?_; rintro e w5 ⟨rfl, hs5⟩; have HS5 := Lib.hid hs5; clear hs5))
    all_goals
      go_wp2_with fail
      go_meet
      case rel => exact ⟨rfl, HS5.out⟩
  case rest =>
    obtain ⟨rfl, H4⟩ := hcut
    clear H3
    go_upto_region 4 with fail
    go_cut [4] (fun v4 wx => v4 = .bool true ∧ Hid (HeadSt w wx g bx [hb1]))
    case first =>
      have q0 := H4.out.c0
      have q1 := H4.out.c1
      have q2 := H4.out.c2
      have HBA : Hid (Calls Try.prog 15 #[.pointer (some ⟨g, 0, none⟩)] wc.drew fun e w' => ∃ la k c, e = .returned (.slice la k c) ∧ HeadSt w w' g bx [hb1] ∧ Posts w' la k [hp2, hp1]) := H4.out.drew.balances head_bal1
      have HSM : Hid (∀ (w5 : World) (la : Option Addr) (k c : Nat), HeadSt w w5 g bx [hb1] → Posts w5 la k [hp2, hp1] → Calls Try.prog 14 #[.slice la k c, .slice (some ⟨w5.heap.size, 0, none⟩) 2 2] (w5.alloc (.cells #[.int .i64 1, .string (bs []), .int .i64 500, .int .i64 5, .string (bs cardN), .int .i64 (-500)] 44)) fun e w' => e = .returned (.bool true) ∧ HeadSt w w' g bx [hb1]) := fun w5 la k c h hp => by
        have hal := Joins.below_alloc1 w5 (.cells #[.int .i64 1, .string (bs []), .int .i64 500, .int .i64 5, .string (bs cardN), .int .i64 (-500)] 44)
        have hk : k = 2 := hp.1.symm
        refine (same_any la (some ⟨w5.heap.size, 0, none⟩) k c 2 2 [hp2, hp1] [hp2, hp1] _ (hp.below hal) (posts_two (x := hp2) (y := hp1) (World.alloc_heap_new w5 _)) (by omega) (by omega)).mono ?_
        rintro e w' ⟨rfl, hb⟩
        exact ⟨by simp, (h.step hal).step hb⟩
      have HBL : Hid (∀ w6 : World, HeadSt w w6 g bx [hb1] → Calls Try.prog 17 #[.pointer (some ⟨g, 0, none⟩), .agg #[.int .i64 5, .string (bs cardN)]] w6 fun e w' => e = .returned (.int .i64 (-500)) ∧ HeadSt w w' g bx [hb1]) := fun w6 h => by
        have := h.balance 5 cardN ⟨by decide +kernel, by decide +kernel⟩
        rw [head_val] at this
        exact this
      go_region_with (first | (go_at_call 15; refine HBA.out.mono ?_; rintro e w4 ⟨la, k, c, rfl, hs4, hp4⟩; have HS4 := Lib.hid hs4; have HP4 := Lib.hid hp4; have r0 := hs4.c0; have r1 := hs4.c1; have r2 := hs4.c2; clear hs4 hp4) | (go_at_call 26; refine (posting_any 1 [] 500 _).mono ?_; rintro e w5 ⟨rfl, hb5⟩; have HS5 := Lib.hid (HS4.out.step hb5); have HP5 := Lib.hid (HP4.out.below hb5); have s0 := HS5.out.c0; have s1 := HS5.out.c1; have s2 := HS5.out.c2; clear hb5) | (go_at_call 14; refine (HSM.out _ _ _ _ HS5.out HP5.out).mono ?_; rintro e w6 ⟨rfl, hs6⟩; have HS6 := Lib.hid hs6; have t0 := hs6.c0; have t1 := hs6.c1; clear hs6) | (go_at_call 17; refine (HBL.out _ HS6.out).mono ?_; rintro e w7 ⟨rfl, hs7⟩; have HS7 := Lib.hid hs7; clear hs7))
      all_goals
        go_wp2_with fail
        go_meet
        case rel => exact ⟨rfl, HS7.out⟩
    case rest =>
      obtain ⟨rfl, H5⟩ := hcut
      clear H4
      go_upto_region 5 with fail
      go_cut [5] (fun v5 wx => v5 = .int .i64 9 ∧ Hid (HeadSt w wx g bx [hb1]))
      case first =>
        have q0 := H5.out.c0
        have q1 := H5.out.c1
        have q2 := H5.out.c2
        have HC : Hid (∀ w4 : World, HeadSt w w4 g bx [hb1] → Calls Try.prog 12 #[.pointer (some ⟨g, 0, none⟩), .agg #[.int .i64 1, .slice (some ⟨w4.heap.size, 0, none⟩) 2 2]] (w4.alloc (.cells #[.int .i64 5, .string (bs cardN), .int .i64 (-500), .int .i64 1, .string (bs []), .int .i64 500] 44)) fun e w' => e = .returned (.int .i64 9) ∧ HeadSt w w' g bx [hb1]) := fun w4 h => by
          have hst := h.step (Joins.below_alloc1 w4 (.cells #[.int .i64 5, .string (bs cardN), .int .i64 (-500), .int .i64 1, .string (bs []), .int .i64 500] 44))
          have := hst.book 1 (some ⟨w4.heap.size, 0, none⟩) 2 2 [hp1, hp2] (by simp) (by omega) (posts_two (x := hp1) (y := hp2) (World.alloc_heap_new w4 _)) (by decide +kernel)
          have h0 : bookS [hb1] (1, [hp1, hp2]) = [hb1] := by unfold bookS; rw [show bookE [hb1] (1, [hp1, hp2]) = 9 from head_2]; rfl
          rw [show bookE [hb1] (1, [hp1, hp2]) = 9 from head_2, h0] at this
          exact this
        have HD : Hid (HeadSt w wc.drew g bx [hb1]) := H5.out.drew
        go_region_with (first | (go_at_call 26; refine (posting_any 1 [] 500 _).mono ?_; rintro e w4 ⟨rfl, hb4⟩; have HS4 := Lib.hid (HD.out.step hb4); have r0 := HS4.out.c0; have r1 := HS4.out.c1; have r2 := HS4.out.c2; clear hb4) | (go_at_call 12; refine (HC.out _ HS4.out).mono ?_; rintro e w5 ⟨rfl, hs5⟩; have HS5 := Lib.hid hs5; clear hs5))
        all_goals
          go_wp2_with fail
          go_meet
          case rel => exact ⟨rfl, HS5.out⟩
      case rest =>
        obtain ⟨rfl, H6⟩ := hcut
        clear H5
        go_upto_region 6 with fail
        go_wp2_with fail
        change Calls Try.prog 26 _ _ _
        refine (posting_any 1 [] 1 _).mono ?_
        rintro e w4 ⟨rfl, hb4⟩
        have HS4 := Lib.hid (H6.out.step hb4)
        clear hb4 H6
        go_wp2_with fail
        change Calls Try.prog 26 _ _ _
        refine (posting_any 3 [] (-2) _).mono ?_
        rintro e w5 ⟨rfl, hb5⟩
        have HS5 := Lib.hid (HS4.out.step hb5)
        clear hb5 HS4
        have HC : Hid (Calls Try.prog 12 #[.pointer (some ⟨g, 0, none⟩), .agg #[.int .i64 2, .slice (some ⟨w5.heap.size, 0, none⟩) 2 2]] (w5.alloc (.cells #[.int .i64 1, .string (bs []), .int .i64 1, .int .i64 3, .string (bs []), .int .i64 (-2)] 44)) fun e w' => e = .returned (.int .i64 19) ∧ HeadSt w w' g bx [hb1]) := by
          have hst := HS5.out.step (Joins.below_alloc1 w5 (.cells #[.int .i64 1, .string (bs []), .int .i64 1, .int .i64 3, .string (bs []), .int .i64 (-2)] 44))
          have := hst.book 2 (some ⟨w5.heap.size, 0, none⟩) 2 2 [((1, []), 1), ((3, []), -2)] (by simp) (by omega) (posts_two (x := ((1, []), 1)) (y := ((3, []), -2)) (World.alloc_heap_new w5 _)) (by decide +kernel)
          have h0 : bookS [hb1] (2, [((1, []), 1), ((3, []), -2)]) = [hb1] := by unfold bookS; rw [show bookE [hb1] (2, [((1, []), 1), ((3, []), -2)]) = 19 from head_3]; rfl
          rw [show bookE [hb1] (2, [((1, []), 1), ((3, []), -2)]) = 19 from head_3, h0] at this
          exact this
        go_wp2_with fail
        refine HC.out.mono ?_
        rintro e w6 ⟨rfl, hs6⟩
        have H7 := Lib.hid hs6
        clear hs6 HC HS5
        go_wp2_with fail
        change Calls Try.prog 26 _ _ _
        refine (posting_any 1 [] (-500) _).mono ?_
        rintro e w7 ⟨rfl, hb7⟩
        have HS7 := Lib.hid (H7.out.step hb7)
        clear hb7 H7
        go_wp2_with fail
        change Calls Try.prog 26 _ _ _
        refine (posting_any 5 cardN 500 _).mono ?_
        rintro e w8 ⟨rfl, hb8⟩
        have HS8 := Lib.hid (HS7.out.step hb8)
        clear hb8 HS7
        have HC : Hid (Calls Try.prog 12 #[.pointer (some ⟨g, 0, none⟩), .agg #[.int .i64 2, .slice (some ⟨w8.heap.size, 0, none⟩) 2 2]] (w8.alloc (.cells #[.int .i64 1, .string (bs []), .int .i64 (-500), .int .i64 5, .string (bs cardN), .int .i64 500] 44)) fun e w' => e = .returned (.int .i64 0) ∧ HeadSt w w' g bx [hb1, hb3]) := by
          have hst := HS8.out.step (Joins.below_alloc1 w8 (.cells #[.int .i64 1, .string (bs []), .int .i64 (-500), .int .i64 5, .string (bs cardN), .int .i64 500] 44))
          have := hst.book 2 (some ⟨w8.heap.size, 0, none⟩) 2 2 [((1, []), -500), ((5, cardN), 500)] (by simp) (by omega) (posts_two (x := ((1, []), -500)) (y := ((5, cardN), 500)) (World.alloc_heap_new w8 _)) (by decide +kernel)
          have h0 : bookS [hb1] (2, [((1, []), -500), ((5, cardN), 500)]) = [hb1, hb3] := by unfold bookS; rw [show bookE [hb1] (2, [((1, []), -500), ((5, cardN), 500)]) = 0 from head_4]; rfl
          rw [show bookE [hb1] (2, [((1, []), -500), ((5, cardN), 500)]) = 0 from head_4, h0] at this
          exact this
        go_wp2_with fail
        refine HC.out.mono ?_
        rintro e w9 ⟨rfl, hs9⟩
        have H8 := Lib.hid hs9
        clear hs9 HC HS8
        have q0 := H8.out.c0
        have q1 := H8.out.c1
        have q2 := H8.out.c2
        have HC : Hid (Calls Try.prog 12 #[.pointer (some ⟨g, 0, none⟩), .agg #[.int .i64 3, .slice (some ⟨w9.heap.size, 0, none⟩) 1 1]] (w9.alloc (.cells #[.int .i64 5, .string (bs cardN), .int .i64 (-500)] 44)) fun e w' => e = .returned (.int .i64 1) ∧ HeadSt w w' g bx [hb1, hb3]) := by
          have hst := H8.out.step (Joins.below_alloc1 w9 (.cells #[.int .i64 5, .string (bs cardN), .int .i64 (-500)] 44))
          have := hst.book 3 (some ⟨w9.heap.size, 0, none⟩) 1 1 [hp1] (by simp) (by omega) (posts_one (x := hp1) (World.alloc_heap_new w9 _)) (by decide +kernel)
          have h0 : bookS [hb1, hb3] (3, [hp1]) = [hb1, hb3] := by unfold bookS; rw [show bookE [hb1, hb3] (3, [hp1]) = 1 from head_5]; rfl
          rw [show bookE [hb1, hb3] (3, [hp1]) = 1 from head_5, h0] at this
          exact this
        go_wp2_with fail
        refine HC.out.mono ?_
        rintro e w10 ⟨rfl, hs10⟩
        have H10 := Lib.hid hs10
        clear hs10 HC q0 q1 q2 H8
        go_wp2_with fail
        change Calls Try.prog 15 _ _ _
        refine (H10.out.balances head_bal2).mono ?_
        rintro e w11 ⟨la, k, c, rfl, hs11, hp11⟩
        have hk : k = 0 := hp11.1.symm
        subst hk
        have H11 := Lib.hid hs11
        clear hs11 hp11 H10
        go_wp2_with fail
        change Calls Try.prog 20 _ _ _
        refine H11.out.bookings.mono ?_
        rintro e w12 ⟨lb, k2, c2, rfl, hs12, hk2⟩
        have hk : k2 = 2 := hk2
        subst hk
        have H12 := Lib.hid hs12
        clear hs12 hk2 H11
        go_wp2_with fail
        change Calls Try.prog 12 _ _ _
        refine (book_nil _ _ _ _ _).mono ?_
        rintro e w13 ⟨rfl, hb13⟩
        have H13 := Lib.hid (H12.out.step hb13)
        have q0 := H13.out.c0
        have q1 := H13.out.c1
        clear hb13 H12
        go_wp2_with fail
        change Calls Try.prog 17 _ _ _
        refine (balance_nil 5 cardN _).mono ?_
        rintro e w14 ⟨rfl, hb14⟩
        have H14 := Lib.hid (H13.out.step hb14)
        clear hb14 H13 q0 q1
        go_wp2_with fail
        go_ret
        exact ⟨rfl, H14.out.below⟩
end Go.Proofs.Ytafhdpalobalkaa
