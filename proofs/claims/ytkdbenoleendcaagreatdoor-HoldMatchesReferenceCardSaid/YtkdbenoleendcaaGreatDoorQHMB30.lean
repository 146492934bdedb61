/- foyerref26.SameHolds, Choice: the walks. -/
import Derived.Test.YtkdbenoleendcaaGreatDoorQHMB29

namespace Go.Proofs.YtkdbenoleendcaaGreatDoor
open Go.RowKit Go.IntWalk

/-- An open hold in a box. -/
def BoxH (W : World) (b : Nat) (x : OwnT) : Prop := W.heap[b]? = some (.cells #[.int .i64 x.1.1, .string (bs x.1.2.1), .int .i64 0, .slice x.2.1 x.1.2.2.1.length x.2.2, .int .i64 x.1.2.2.2.1, .int .i64 x.1.2.2.2.2] 51 (0, 0))
theorem BoxH.step {W W' : World} {b : Nat} {x : OwnT} (h : BoxH W b x) (hb : Below W.heap.size W W') : BoxH W' b x := (hb.block b (lt_of_block h)).trans h

theorem own_at {w : World} {ra : Option Addr} {n : Nat} {E : List OwnT} (h : Recs OwnE w ra n E) (i : Nat) (hi : i < n) (hiE : i < E.length) : ∃ b o, ra = some ⟨b, o, none⟩ ∧ w.cell? ⟨b, o + i * 6, none⟩ = some (.int .i64 E[i].1.1) ∧
    w.cell? ⟨b, o + i * 6 + 1, none⟩ = some (.string (bs E[i].1.2.1)) ∧ w.cell? ⟨b, o + i * 6 + 2, none⟩ = some (.int .i64 0) ∧ w.cell? ⟨b, o + i * 6 + 3, none⟩ = some (.slice E[i].2.1 E[i].1.2.2.1.length E[i].2.2) ∧
    w.cell? ⟨b, o + i * 6 + 4, none⟩ = some (.int .i64 E[i].1.2.2.2.1) ∧ w.cell? ⟨b, o + i * 6 + 5, none⟩ = some (.int .i64 E[i].1.2.2.2.2) := by
  obtain ⟨b, o, e, c⟩ := h.2 i hi
  have c0 := c 0 (by omega)
  have c1 := c 1 (by omega)
  have c2 := c 2 (by omega)
  have c3 := c 3 (by omega)
  have c4 := c 4 (by omega)
  have c5 := c 5 (by omega)
  rw [rc_eq _ _ hiE] at c0 c1 c2 c3 c4 c5
  exact ⟨b, o, e, c0, c1, c2, c3, c4, c5⟩

/-- The places of a hold are in memory. -/
def PlIn (w : World) (x : OwnT) : Prop := x.1.2.2.1.length ≤ 4000 ∧ Ints w x.2.1 x.1.2.2.1.length x.1.2.2.1
theorem PlIn.below {w w' : World} {x : OwnT} (h : PlIn w x) (hb : Below w.heap.size w w') : PlIn w' x := ⟨h.1, h.2.below hb⟩

theorem hold_ext {E1 E2 : List OwnT} (h : E1.length = E2.length) (he : ∀ i (h1 : i < E1.length) (h2 : i < E2.length), E1[i].1 = E2[i].1) : E1.map (·.1) = E2.map (·.1) := by
  refine List.ext_getElem (by simpa using h) fun i h1 h2 => ?_
  simp only [List.getElem_map]
  exact he i (by simpa using h1) (by simpa using h2)

theorem hold_ne {E1 E2 : List OwnT} {i : Nat} (h1 : i < E1.length) (h2 : i < E2.length) (he : E1[i].1 ≠ E2[i].1) : E1.map (·.1) ≠ E2.map (·.1) := by
  intro h
  have h3 : (E1.map (·.1))[i]? = (E2.map (·.1))[i]? := by rw [h]
  simp only [List.getElem?_map, List.getElem?_eq_getElem h1, List.getElem?_eq_getElem h2, Option.map_some, Option.some.injEq] at h3
  exact he h3

set_option maxRecDepth 10000 in
set_option maxHeartbeats 3200000 in
theorem sameholds_any (ra rb : Option Addr) (n c n2 c2 : Nat) (E1 E2 : List OwnT) (w : World) (hl : Recs OwnE w ra n E1) (hm : Recs OwnE w rb n2 E2) (hp : ∀ x ∈ E1, PlIn w x) (hp2 : ∀ x ∈ E2, PlIn w x) (hn : n ≤ 1000000) (hn2 : n2 ≤ 1000000) :
    Calls Tryz.prog 19 #[.slice ra n c, .slice rb n2 c2] w fun e w' => e = .returned (.bool (decide (E1.map (·.1) = E2.map (·.1)))) ∧ Below w.heap.size w w' := by
  have HL := Lib.hid hl
  have HM := Lib.hid hm
  have HP := Lib.hid hp
  have HP2 := Lib.hid hp2
  have hll := hl.1
  have hml := hm.1
  clear hl hm hp hp2
  by_cases hne : n = n2
  · subst hne
    go_enter Tryz.func19, Tryz.ntmps19
    go_wp2_with fail
    go_loopw [5, 6, 7] (fun v5 v6 v7 wr => ∃ i : Nat, v5 = .int .i64 i ∧ i ≤ n ∧ Hid (Below w.heap.size w wr) ∧ Hid (∀ j (h1 : j < E1.length) (h2 : j < E2.length), j < i → E1[j].1 = E2[j].1)) (fun v5 v6 v7 _ => n - (intOf v5).toNat)
    case atStart => exact ⟨0, rfl, Nat.zero_le _, Below.refl _ _, fun j _ _ hj => by omega⟩
    case round =>
      obtain ⟨i, rfl, hi, HB, HW⟩ := hrel
      by_cases hlt : i < n
      · have hi1 : i < E1.length := by omega
        have hi2 : i < E2.length := by omega
        obtain ⟨b1, o1, rfl, p0, p1, p2, p3, p4, p5⟩ := own_at (HL.out.below HB.out) i hlt hi1
        obtain ⟨b2, o2, rfl, q0, q1, q2, q3, q4, q5⟩ := own_at (HM.out.below HB.out) i hlt hi2
        have HX : Hid (E1[i].1 ≠ E2[i].1 → E1.map (·.1) ≠ E2.map (·.1)) := hold_ne hi1 hi2
        have HPX : Hid (PlIn wr E1[i]) := (HP.out _ (List.getElem_mem hi1)).below HB.out
        have HPY : Hid (PlIn wr E2[i]) := (HP2.out _ (List.getElem_mem hi2)).below HB.out
        obtain ⟨x, hx⟩ : ∃ x, E1[i] = x := ⟨_, rfl⟩
        obtain ⟨y, hy⟩ : ∃ y, E2[i] = y := ⟨_, rfl⟩
        rw [hx] at p0 p1 p3 p4 p5 HPX
        rw [hy] at q0 q1 q3 q4 q5 HPY
        rw [hx, hy] at HX
        have HXX : Hid (x.1 = y.1 → ∀ j (h1 : j < E1.length) (h2 : j < E2.length), j < i + 1 → E1[j].1 = E2[j].1) := fun e j h1 h2 hj => by
          by_cases ej : j = i
          · subst ej; rw [hx, hy]; exact e
          · exact HW.out j h1 h2 (by omega)
        clear hx hy
        obtain ⟨⟨x1, x2, xL, x4, x5⟩, xa, xc⟩ := x
        obtain ⟨⟨y1, y2, yL, y4, y5⟩, ya, yc⟩ := y
        dsimp only at p0 p1 p2 p3 p4 p5 q0 q1 q2 q3 q4 q5 HX HXX
        have hb1 : Hid (Below wr.heap.size wr (wr.alloc (.cells #[.int .i64 x1, .string (bs x2), .int .i64 0, .slice xa xL.length xc, .int .i64 x4, .int .i64 x5] 51))) := Joins.below_alloc1 _ _
        have z0 := Below.cell_of hb1.out q0
        have z1 := Below.cell_of hb1.out q1
        have z2 := Below.cell_of hb1.out q2
        have z3 := Below.cell_of hb1.out q3
        have z4 := Below.cell_of hb1.out q4
        have z5 := Below.cell_of hb1.out q5
        clear q0 q1 q2 q3 q4 q5
        go_upto_region 8 with fail
        have HBX : Hid (BoxH ((wr.alloc (.cells #[.int .i64 x1, .string (bs x2), .int .i64 0, .slice xa xL.length xc, .int .i64 x4, .int .i64 x5] 51)).alloc (.cells #[.int .i64 y1, .string (bs y2), .int .i64 0, .slice ya yL.length yc, .int .i64 y4, .int .i64 y5] 51)) wr.heap.size ((x1, x2, xL, x4, x5), xa, xc)) :=
          BoxH.step (World.alloc_heap_new wr _) (Joins.below_alloc1 _ _)
        have HBY : Hid (BoxH ((wr.alloc (.cells #[.int .i64 x1, .string (bs x2), .int .i64 0, .slice xa xL.length xc, .int .i64 x4, .int .i64 x5] 51)).alloc (.cells #[.int .i64 y1, .string (bs y2), .int .i64 0, .slice ya yL.length yc, .int .i64 y4, .int .i64 y5] 51)) (wr.heap.size + 1) ((y1, y2, yL, y4, y5), ya, yc)) := by
          have := World.alloc_heap_new (wr.alloc (.cells #[.int .i64 x1, .string (bs x2), .int .i64 0, .slice xa xL.length xc, .int .i64 x4, .int .i64 x5] 51)) (.cells #[.int .i64 y1, .string (bs y2), .int .i64 0, .slice ya yL.length yc, .int .i64 y4, .int .i64 y5] 51)
          show _ = _
          simpa using this
        have HB2 : Hid (Below wr.heap.size wr ((wr.alloc (.cells #[.int .i64 x1, .string (bs x2), .int .i64 0, .slice xa xL.length xc, .int .i64 x4, .int .i64 x5] 51)).alloc (.cells #[.int .i64 y1, .string (bs y2), .int .i64 0, .slice ya yL.length yc, .int .i64 y4, .int .i64 y5] 51))) := hb1.out.alloc hb1.out.size _
        generalize (wr.alloc (.cells #[.int .i64 x1, .string (bs x2), .int .i64 0, .slice xa xL.length xc, .int .i64 x4, .int .i64 x5] 51)).alloc (.cells #[.int .i64 y1, .string (bs y2), .int .i64 0, .slice ya yL.length yc, .int .i64 y4, .int .i64 y5] 51) = w2 at *
        clear p0 p1 p2 p3 p4 p5 z0 z1 z2 z3 z4 z5
        have HI := Lib.hid (ints_any xa ya xL.length xc yL.length yc xL yL w2 (HPX.out.2.below HB2.out) (HPY.out.2.below HB2.out) (by have := HPX.out.1; dsimp only at this; omega) (by have := HPY.out.1; dsimp only at this; omega))
        have HBW : Hid (Below w.heap.size w w2) := HB.out.trans (HB2.out.mono HB.out.size)
        have p0 := cell_of_row (j := 0) _ _ _ _ _ HBX.out
        have p1 := cell_of_row (j := 1) _ _ _ _ _ HBX.out
        have p2 := cell_of_row (j := 2) _ _ _ _ _ HBX.out
        have p3 := cell_of_row (j := 3) _ _ _ _ _ HBX.out
        have p4 := cell_of_row (j := 4) _ _ _ _ _ HBX.out
        have p5 := cell_of_row (j := 5) _ _ _ _ _ HBX.out
        have q0 := cell_of_row (j := 0) _ _ _ _ _ HBY.out
        have q1 := cell_of_row (j := 1) _ _ _ _ _ HBY.out
        have q2 := cell_of_row (j := 2) _ _ _ _ _ HBY.out
        have q3 := cell_of_row (j := 3) _ _ _ _ _ HBY.out
        have q4 := cell_of_row (j := 4) _ _ _ _ _ HBY.out
        have q5 := cell_of_row (j := 5) _ _ _ _ _ HBY.out
        dsimp only [List.getElem?_toArray, List.getElem?_cons_zero, List.getElem?_cons_succ] at p0 p1 p2 p3 p4 p5 q0 q1 q2 q3 q4 q5
        clear HB2 hb1 HBX HBY
        by_cases h1 : ¬ x1 = y1
        · have HS : Hid (E1.map (·.1) ≠ E2.map (·.1)) := HX.out (by simp [h1])
          have hb1 : (x1 != y1) = true := by simp [h1]
          clear h1 HXX HX
          go_wp2_with fail
          go_ret
          exact ⟨by simp [HS.out], HBW.out⟩
        replace h1 := Classical.not_not.mp h1
        have hb1 : (x1 != y1) = false := by simp [h1]
        have HE1 := Lib.hid h1
        clear h1
        by_cases h2 : ¬ x2 = y2
        · have HS : Hid (E1.map (·.1) ≠ E2.map (·.1)) := HX.out (by simp [h2])
          have hb2 : ((bs x2).toList == (bs y2).toList) = false := by rw [bs_toList, bs_toList]; simp [h2]
          clear h2 HXX HX
          go_wp2_with fail
          go_ret
          exact ⟨by simp [HS.out], HBW.out⟩
        replace h2 := Classical.not_not.mp h2
        have hb2 : ((bs x2).toList == (bs y2).toList) = true := by rw [bs_toList, bs_toList]; simp [h2]
        have HE2 := Lib.hid h2
        clear h2
        by_cases h4 : ¬ x4 = y4
        · have HS : Hid (E1.map (·.1) ≠ E2.map (·.1)) := HX.out (by simp [h4])
          have hb4 : (x4 != y4) = true := by simp [h4]
          clear h4 HXX HX
          go_wp2_with fail
          go_ret
          exact ⟨by simp [HS.out], HBW.out⟩
        replace h4 := Classical.not_not.mp h4
        have hb4 : (x4 != y4) = false := by simp [h4]
        have HE4 := Lib.hid h4
        clear h4
        by_cases h5 : ¬ x5 = y5
        · have HS : Hid (E1.map (·.1) ≠ E2.map (·.1)) := HX.out (by simp [h5])
          have hb5 : (x5 != y5) = true := by simp [h5]
          clear h5 HXX HX
          go_wp2_with fail
          go_ret
          exact ⟨by simp [HS.out], HBW.out⟩
        replace h5 := Classical.not_not.mp h5
        have hb5 : (x5 != y5) = false := by simp [h5]
        have HE5 := Lib.hid h5
        clear h5
        go_wp2_with fail
        refine HI.out.mono ?_
        rintro e w3 ⟨rfl, hq⟩
        have HB3 : Hid (Below w.heap.size w w3) := HBW.out.trans (hq.below.mono HBW.out.size)
        clear hq HI
        by_cases h3 : xL = yL
        · have HE : Hid (∀ j (h1 : j < E1.length) (h2 : j < E2.length), j < i + 1 → E1[j].1 = E2[j].1) := HXX.out (by rw [HE1.out, HE2.out, HE4.out, HE5.out, h3])
          have hb3 : decide (xL = yL) = true := by simp [h3]
          clear h3 HXX HX
          go_wp2_with fail
          refine ⟨⟨i + 1, by go_num, hlt, HB3.out, HE.out⟩, by simp [intOf]; omega⟩
        · have HS : Hid (E1.map (·.1) ≠ E2.map (·.1)) := HX.out (by simp [h3])
          have hb3 : decide (xL = yL) = false := by simp [h3]
          clear h3 HXX HX
          go_wp2_with fail
          go_ret
          exact ⟨by simp [HS.out], HB3.out⟩
      · have hi' : i = n := by omega
        subst hi'
        have HE : Hid (E1.map (·.1) = E2.map (·.1)) := hold_ext (by omega) (fun j h1 h2 => HW.out j h1 h2 (by omega))
        go_wp2_with fail
        go_ret
        exact ⟨by simp [HE.out], HB.out⟩
  · have HN : Hid (E1.map (·.1) ≠ E2.map (·.1)) := fun e => hne (by have := congrArg List.length e; simp at this; omega)
    go_enter Tryz.func19, Tryz.ntmps19
    go_wp2_with fail
    go_ret
    exact ⟨by simp [HN.out], Below.refl _ _⟩
end Go.Proofs.YtkdbenoleendcaaGreatDoor
