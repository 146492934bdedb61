/- foyerref11.Ints, In; foyerref26.SameSpaces: the walks. -/
import Derived.Test.YtkdbenoleendcaaGreatDoorQHMB28
import Derived.Laws.StructEq

namespace Go.Proofs.YtkdbenoleendcaaGreatDoor
open Go.RowKit Go.IntWalk

/-- w' is w behind some draws. -/
def Quiet (w w' : World) : Prop := ∃ m, w' = w.drewN m
theorem Quiet.refl (w : World) : Quiet w w := ⟨0, rfl⟩
theorem Quiet.next {w wr : World} (h : Quiet w wr) : Quiet w wr.drew := by
  obtain ⟨m, rfl⟩ := h
  exact ⟨m + 1, rfl⟩
theorem Quiet.more {w wr : World} (h : Quiet w wr) (q : Nat) : Quiet w (wr.drewN q) := by
  obtain ⟨m, rfl⟩ := h
  exact ⟨m + q, by simp [World.drewN, Nat.add_assoc]⟩
theorem Quiet.trans {a b c : World} (h : Quiet a b) (k : Quiet b c) : Quiet a c := by
  obtain ⟨m, rfl⟩ := k
  exact h.more m
theorem Quiet.below {w wr : World} (hq : Quiet w wr) : Below w.heap.size w wr := by
  obtain ⟨m, rfl⟩ := hq
  exact below_drewN (Below.refl _ _) m

theorem list_ix {l m : List Int} (h : l.length = m.length) (he : ∀ i, i < l.length → ix l i = ix m i) : l = m := by
  refine List.ext_getElem h fun i h1 h2 => ?_
  have := he i h1
  rwa [ix_get h1, ix_get h2] at this

set_option maxRecDepth 10000 in
theorem ints_any (ra rb : Option Addr) (n c n2 c2 : Nat) (l m : List Int) (w : World) (hl : Ints w ra n l) (hm : Ints w rb n2 m) (hn : n ≤ 1000000) (hn2 : n2 ≤ 1000000) :
    Calls Tryz.prog 15 #[.slice ra n c, .slice rb n2 c2] w fun e w' => e = .returned (.bool (decide (l = m))) ∧ Quiet w w' := by
  have HL := Lib.hid hl
  have HM := Lib.hid hm
  have hll := hl.1
  have hml := hm.1
  clear hl hm
  by_cases hne : n = n2
  · subst hne
    go_enter Tryz.func15, Tryz.ntmps15
    go_wp2_with fail
    go_loopw [5] (fun v5 wr => ∃ i : Nat, v5 = .int .i64 i ∧ i ≤ n ∧ Hid (Quiet w wr) ∧ Hid (∀ j, j < i → ix l j = ix m j)) (fun v5 _ => n - (intOf v5).toNat)
    case atStart => exact ⟨0, rfl, Nat.zero_le _, Quiet.refl _, fun j hj => by omega⟩
    case round =>
      obtain ⟨i, rfl, hi, HB, HW⟩ := hrel
      by_cases hlt : i < n
      · obtain ⟨b1, o1, rfl, p0⟩ := (HL.out.below HB.out.below).2 i hlt
        obtain ⟨b2, o2, rfl, q0⟩ := (HM.out.below HB.out.below).2 i hlt
        have HX : Hid (ix l i = ix m i ∨ l ≠ m) := by
          by_cases e : ix l i = ix m i
          · exact Or.inl e
          · exact Or.inr (fun h => e (by rw [h]))
        obtain ⟨x, hx⟩ : ∃ x, ix l i = x := ⟨_, rfl⟩
        obtain ⟨y, hy⟩ : ∃ y, ix m i = y := ⟨_, rfl⟩
        rw [hx] at p0
        rw [hy] at q0
        rw [hx, hy] at HX
        have HXX := Lib.hid hx
        have HYY := Lib.hid hy
        clear hx hy
        by_cases h1 : x = y
        · have HE := Lib.hid h1
          have hb : (x != y) = false := by simp [h1]
          clear h1
          go_upto_region 6 with fail
          go_quiet (fail)
          go_wp2_with fail
          go_roundw
          case rel => exact ⟨i + 1, by go_num, by omega, HB.out.more nq, fun j hj => by
            by_cases e : j = i
            · rw [e, HXX.out, HYY.out]; exact HE.out
            · exact HW.out j (by omega)⟩
          case measure => simp [intOf]; omega
        · have HS : Hid (l ≠ m) := (HX.out.resolve_left h1)
          have hb : (x != y) = true := by simp [h1]
          clear h1
          go_upto_region 6 with fail
          go_quiet (fail)
          go_wp2_with fail
          go_ret
          exact ⟨by simp [HS.out], HB.out.more nq⟩
      · have hi' : i = n := by omega
        subst hi'
        have HE : Hid (l = m) := list_ix (by omega) (fun j hj => HW.out j (by omega))
        go_wp2_with fail
        go_ret
        exact ⟨by simp [HE.out], HB.out⟩
  · have HN : Hid (l ≠ m) := fun e => hne (by rw [← hll, ← hml, e])
    go_enter Tryz.func15, Tryz.ntmps15
    go_wp2_with fail
    go_ret
    exact ⟨by simp [HN.out], Quiet.refl _⟩

set_option maxRecDepth 10000 in
theorem in_any (ra : Option Addr) (n c : Nat) (l : List Int) (x : Int) (w : World) (hl : Ints w ra n l) (hn : n ≤ 1000000) :
    Calls Tryz.prog 47 #[.slice ra n c, .int .i64 x] w fun e w' => e = .returned (.bool (decide (x ∈ l))) ∧ w = w' := by
  have HL := Lib.hid hl
  have hll := hl.1
  clear hl
  go_enter Tryz.func47, Tryz.ntmps47
  go_wp2_with fail
  go_loopw [5] (fun v5 wr => ∃ i : Nat, v5 = .int .i64 i ∧ i ≤ n ∧ w = wr ∧ Hid (∀ j, j < i → ix l j ≠ x)) (fun v5 _ => n - (intOf v5).toNat)
  case atStart => exact ⟨0, rfl, Nat.zero_le _, rfl, fun j hj => by omega⟩
  case round =>
    obtain ⟨i, rfl, hi, rfl, HW⟩ := hrel
    by_cases hlt : i < n
    · obtain ⟨b1, o1, rfl, p0⟩ := HL.out.2 i hlt
      have HM : Hid (ix l i ∈ l) := ix_mem (by omega)
      obtain ⟨y, hy⟩ : ∃ y, ix l i = y := ⟨_, rfl⟩
      rw [hy] at p0 HM
      have HY := Lib.hid hy
      clear hy
      by_cases h1 : y = x
      · have HS : Hid (decide (x ∈ l) = true) := by
          show _ = _
          rw [← h1]
          simp [HM.out]
        have hb : (y == x) = true := by simp [h1]
        clear h1
        go_wp2_with fail
        go_ret
        exact ⟨by rw [HS.out]; rfl, rfl⟩
      · have hb : (y == x) = false := by simp [h1]
        have HN := Lib.hid h1
        clear h1
        go_wp2_with fail
        refine ⟨⟨i + 1, by go_num, hlt, trivial, fun j hj => ?_⟩, by simp [intOf]; omega⟩
        by_cases e : j = i
        · rw [e, HY.out]; exact HN.out
        · exact HW.out j (by omega)
    · have hi' : i = n := by omega
      subst hi'
      have HS : Hid (decide (x ∈ l) = false) := by
        show _ = _
        rw [decide_eq_false_iff_not]
        intro hm
        obtain ⟨j, hj, e⟩ := List.getElem_of_mem hm
        exact HW.out j (by omega) (by rw [ix_get hj, e])
      go_wp2_with fail
      go_ret
      exact ⟨by rw [HS.out]; rfl, rfl⟩

theorem sp_at2 {w : World} {ra : Option Addr} {n : Nat} {l : List SpT} (h : Recs SpE w ra n l) (i : Nat) (hi : i < n) : ∃ b o, ra = some ⟨b, o, none⟩ ∧ w.cell? ⟨b, o + i * 2, none⟩ = some (.int .i64 (spAt l i).1) ∧ w.cell? ⟨b, o + i * 2 + 1, none⟩ = some (.int .i64 (spAt l i).2) := by
  obtain ⟨b, o, e, c⟩ := h.2 i hi
  have hl := h.1
  have c0 := c 0 (by omega)
  have c1 := c 1 (by omega)
  rw [sp_c0 i (by omega)] at c0
  rw [sp_c1 i (by omega)] at c1
  exact ⟨b, o, e, c0, c1⟩

set_option maxRecDepth 10000 in
set_option maxHeartbeats 1600000 in
theorem samesp_any (ra rb : Option Addr) (n c n2 c2 : Nat) (l m : List SpT) (w : World) (hl : Recs SpE w ra n l) (hm : Recs SpE w rb n2 m) (hn : n ≤ 1000000) (hn2 : n2 ≤ 1000000) :
    Calls Tryz.prog 16 #[.slice ra n c, .slice rb n2 c2] w fun e w' => e = .returned (.bool (decide (l = m))) ∧ Quiet w w' := by
  have HL := Lib.hid hl
  have HM := Lib.hid hm
  have hll := hl.1
  have hml := hm.1
  clear hl hm
  by_cases hne : n = n2
  · subst hne
    go_enter Tryz.func16, Tryz.ntmps16
    go_wp2_with fail
    go_loopw [5] (fun v5 wr => ∃ i : Nat, v5 = .int .i64 i ∧ i ≤ n ∧ Hid (Quiet w wr) ∧ Hid (∀ j, j < i → spAt l j = spAt m j)) (fun v5 _ => n - (intOf v5).toNat)
    case atStart => exact ⟨0, rfl, Nat.zero_le _, Quiet.refl _, fun j hj => by omega⟩
    case round =>
      obtain ⟨i, rfl, hi, HB, HW⟩ := hrel
      by_cases hlt : i < n
      · obtain ⟨b1, o1, rfl, p0, p1⟩ := sp_at2 (HL.out.below HB.out.below) i hlt
        obtain ⟨b2, o2, rfl, q0, q1⟩ := sp_at2 (HM.out.below HB.out.below) i hlt
        have HX : Hid (spAt l i ≠ spAt m i → l ≠ m) := fun e h => e (by rw [h])
        obtain ⟨x, hx⟩ : ∃ x, spAt l i = x := ⟨_, rfl⟩
        obtain ⟨y, hy⟩ : ∃ y, spAt m i = y := ⟨_, rfl⟩
        rw [hx] at p0 p1
        rw [hy] at q0 q1
        rw [hx, hy] at HX
        have HXX := Lib.hid hx
        have HYY := Lib.hid hy
        clear hx hy
        obtain ⟨x1, x2⟩ := x
        obtain ⟨y1, y2⟩ := y
        dsimp only at p0 p1 q0 q1
        by_cases h1 : x1 = y1
        · by_cases h2 : x2 = y2
          · have HE : Hid ((x1, x2) = (y1, y2)) := by rw [h1, h2]; rfl
            go_upto_region 6 with fail
            go_region
            go_wp2_with fail
            go_roundw
            case rel => exact ⟨i + 1, by go_num, by omega, HB.out.next, fun j hj => by
              by_cases e : j = i
              · rw [e, HXX.out, HYY.out]; exact HE.out
              · exact HW.out j (by omega)⟩
            case measure => simp [intOf]; omega
          · have HS : Hid (l ≠ m) := HX.out (by simp [h2])
            go_upto_region 6 with fail
            go_region
            go_wp2_with fail
            go_ret
            exact ⟨by simp [HS.out], HB.out.next⟩
        · have HS : Hid (l ≠ m) := HX.out (by simp [h1])
          go_upto_region 6 with fail
          go_region
          go_wp2_with fail
          go_ret
          exact ⟨by simp [HS.out], HB.out.next⟩
      · have hi' : i = n := by omega
        subst hi'
        have HE : Hid (l = m) := sp_ext (by omega) (fun j hj => HW.out j (by omega))
        go_wp2_with fail
        go_ret
        exact ⟨by simp [HE.out], HB.out⟩
  · have HN : Hid (l ≠ m) := fun e => hne (by rw [← hll, ← hml, e])
    go_enter Tryz.func16, Tryz.ntmps16
    go_wp2_with fail
    go_ret
    exact ⟨by simp [HN.out], Quiet.refl _⟩
end Go.Proofs.YtkdbenoleendcaaGreatDoor
