/- ledger: foyerref27.Formed, Total, Before; ledger.is: the walks. -/
import Derived.Test.YtafhdpalobalkaaL3
namespace Go.Proofs.Ytafhdpalobalkaa
open Go.RowKit Go.IntWalk

theorem any_no {l : List PostT} (h : ∀ i, i < l.length → badS ((pk l i, pn l i), pa l i) = false) : l.any badS = false := by
  rw [← any_range l badS, List.any_eq_false]
  intro i hi
  rw [h i (List.mem_range.mp hi)]
  simp

theorem any_yes {l : List PostT} {i : Nat} (hi : i < l.length) (h : badS ((pk l i, pn l i), pa l i) = true) : l.any badS = true := by
  rw [← any_range l badS, List.any_eq_true]
  exact ⟨i, List.mem_range.mpr hi, h⟩

set_option maxRecDepth 10000 in
set_option maxHeartbeats 1600000 in
theorem rformed_any (id : Int) (ra : Option Addr) (n c : Nat) (l : List PostT) (w : World) (hn : n ≤ 9223372036854775807) (hM : Posts w ra n l) (hl : ∀ i, i < n → (pn l i).length ≤ 9223372036854775807) :
    Calls Try.prog 24 #[.agg #[.int .i64 id, .slice ra n c]] w fun e w' => e = .returned (.bool (formedS (id, l))) ∧ Below w.heap.size w w' := by
  have hb := Joins.below_alloc1 w (.cells #[.int .i64 id, .slice ra n c] 34)
  have HB := Lib.hid hb
  have HX : Hid (Boxed2 (w.alloc (.cells #[.int .i64 id, .slice ra n c] 34)) w.heap.size (.int .i64 id) (.slice ra n c) 34) := World.alloc_heap_new w _
  have HM := Lib.hid (hM.below hb)
  have HL := Lib.hid hl
  have hlen := hM.1
  have HV : Hid (formedS (id, l) = ((decide (1 ≤ id) && decide (id ≤ 1000000000)) && ((decide (2 ≤ n) && decide (n ≤ 20)) && !l.any badS))) := by show _ = _; unfold formedS; rw [hM.1]
  clear hb hM hl
  go_enter Try.func24, Try.ntmps24
  go_upto_region 1 with fail
  obtain ⟨bx, hbx⟩ : ∃ bx, w.heap.size = bx := ⟨_, rfl⟩
  rw [hbx] at HX
  rw [hbx]
  have HBX := Lib.hid hbx
  clear hbx
  generalize w.alloc (.cells #[.int .i64 id, .slice ra n c] 34) = w1 at *
  have x0 := HX.out.c0
  have x1 := HX.out.c1
  by_cases h1 : id < 1
  · have HR : Hid (formedS (id, l) = false) := by show _ = _; rw [HV.out, show decide (1 ≤ id) = false from by simp; omega]; rfl
    go_wp2_with fail
    go_ret
    exact ⟨by rw [HR.out]; rfl, HB.out⟩
  by_cases h2 : 1000000000 < id
  · have HR : Hid (formedS (id, l) = false) := by show _ = _; rw [HV.out, show decide (id ≤ 1000000000) = false from by simp; omega]; simp
    go_wp2_with fail
    go_ret
    exact ⟨by rw [HR.out]; rfl, HB.out⟩
  by_cases h3 : n < 2
  · have HR : Hid (formedS (id, l) = false) := by show _ = _; rw [HV.out, show decide (2 ≤ n) = false from by simp; omega]; simp
    have h3' : (n : Int) < 2 := by omega
    go_wp2_with fail
    go_ret
    exact ⟨by rw [HR.out]; rfl, HB.out⟩
  have h3' : ¬ (n : Int) < 2 := by omega
  by_cases h4 : 20 < n
  · have HR : Hid (formedS (id, l) = false) := by show _ = _; rw [HV.out, show decide (n ≤ 20) = false from by simp; omega]; simp
    have h4' : (20 : Int) < n := by omega
    go_wp2_with fail
    go_ret
    exact ⟨by rw [HR.out]; rfl, HB.out⟩
  have h4' : ¬ (20 : Int) < n := by omega
  have HV2 : Hid (formedS (id, l) = !l.any badS) := by
    show _ = _
    rw [HV.out, show decide (1 ≤ id) = true from by simp; omega, show decide (id ≤ 1000000000) = true from by simp; omega, show decide (2 ≤ n) = true from by simp; omega, show decide (n ≤ 20) = true from by simp; omega]
    simp
  clear HV x0 x1
  have x0 := HX.out.c0
  have x1 := HX.out.c1
  go_wp2_with fail
  go_loopw [3] (fun v3 wr => ∃ i : Nat, v3 = .int .i64 i ∧ i ≤ n ∧ Hid (Below w1.heap.size w1 wr) ∧ Hid (∀ k, k < i → badS ((pk l k, pn l k), pa l k) = false)) (fun v3 _ => n - (intOf v3).toNat)
  case atStart => exact ⟨0, rfl, Nat.zero_le _, Below.refl _ _, fun k hk => by omega⟩
  case round =>
    clear x0 x1
    obtain ⟨i, rfl, hi, HW, HN⟩ := hrel
    have HXR := Lib.hid (HX.out.step HW.out)
    have x1 := HXR.out.c1
    by_cases hlt : i < n
    · obtain ⟨b, o, rfl, c0, c1, c2⟩ := Posts.at (HM.out.below HW.out) i hlt
      have HLI := Lib.hid (HL.out i hlt)
      have HBAD : Hid (badS ((pk l i, pn l i), pa l i) = (!accS (pk l i, pn l i) || (!amtB (pa l i) || decide (pa l i = 0)))) := rfl
      have HYES := Lib.hid (any_yes (l := l) (i := i) (by omega))
      go_upto_region 7 with fail
      have HW2 := Lib.hid (HW.out.trans ((Joins.below_alloc1 wr (.cells #[.int .i64 (pk l i), .string (bs (pn l i)), .int .i64 (pa l i)] 44)).mono HW.out.size))
      have HY : Hid (Boxed3 (wr.alloc (.cells #[.int .i64 (pk l i), .string (bs (pn l i)), .int .i64 (pa l i)] 44)) wr.heap.size (.int .i64 (pk l i)) (.string (bs (pn l i))) (.int .i64 (pa l i)) 44) := World.alloc_heap_new wr _
      generalize wr.alloc (.cells #[.int .i64 (pk l i), .string (bs (pn l i)), .int .i64 (pa l i)] 44) = w2 at *
      clear c0 c1 c2 x1
      have y0 := HY.out.c0
      have y1 := HY.out.c1
      have y2 := HY.out.c2
      go_wp2_with fail
      refine (account_any (pk l i) (pn l i) HLI.out w2).mono ?_
      rintro e w3 ⟨rfl, hb3⟩
      have HW3 := Lib.hid (HW2.out.trans (hb3.mono HW2.out.size))
      have HY3 := Lib.hid (HY.out.step hb3)
      clear y0 y1 y2 hb3
      have y2 := HY3.out.c2
      cases ha : accS (pk l i, pn l i)
      · have HR : Hid (formedS (id, l) = false) := by show _ = _; rw [HV2.out, HYES.out (by rw [HBAD.out, ha]; rfl)]; rfl
        clear ha
        go_wp2_with fail
        go_ret
        exact ⟨by rw [HR.out]; rfl, HB.out.trans (HW3.out.mono HB.out.size)⟩
      · rw [ha] at HBAD
        clear ha
        go_wp2_with fail
        refine (rvalid_any (pa l i) w3).mono ?_
        rintro e w4 ⟨rfl, rfl⟩
        cases hm : amtB (pa l i)
        · have HR : Hid (formedS (id, l) = false) := by show _ = _; rw [HV2.out, HYES.out (by rw [HBAD.out, hm]; rfl)]; rfl
          clear hm
          go_wp2_with fail
          go_ret
          exact ⟨by rw [HR.out]; rfl, HB.out.trans (HW3.out.mono HB.out.size)⟩
        · rw [hm] at HBAD
          clear hm
          by_cases h0 : pa l i = 0
          · have e0 : (pa l i == 0) = true := by simp [h0]
            have HR : Hid (formedS (id, l) = false) := by show _ = _; rw [HV2.out, HYES.out (by rw [HBAD.out]; simp [h0])]; rfl
            rw [h0] at y2
            clear e0
            go_wp2_with fail
            go_ret
            exact ⟨by rw [HR.out]; rfl, HB.out.trans (HW3.out.mono HB.out.size)⟩
          · have e0 : (pa l i == 0) = false := by simp [h0]
            have HR : Hid (badS ((pk l i, pn l i), pa l i) = false) := by show _ = _; rw [HBAD.out]; simp [h0]
            clear h0
            go_wp2_with fail
            go_roundw
            case rel => exact ⟨i + 1, by go_num, hlt, HW3, fun k hk => by
              by_cases e : k = i
              · rw [e]; exact HR.out
              · exact HN.out k (by omega)⟩
            case measure => simp [intOf]; omega
    · have HR : Hid (formedS (id, l) = true) := by show _ = _; rw [HV2.out, any_no (fun k hk => HN.out k (by omega))]; rfl
      go_wp2_with fail
      go_ret
      exact ⟨by rw [HR.out]; rfl, HB.out.trans (HW.out.mono HB.out.size)⟩

/-- The sum of the amounts, as the machine makes it. -/
def totW (l : List PostT) : Nat → Int
  | 0 => 0
  | i + 1 => IntKind.i64.wrap (totW l i + pa l i)

set_option maxRecDepth 10000 in
theorem rtotal_any (ra : Option Addr) (n c : Nat) (l : List PostT) (w : World) (hn : n ≤ 9223372036854775807) (hM : Posts w ra n l) :
    Calls Try.prog 25 #[.slice ra n c] w fun e w' => e = .returned (.int .i64 (totW l n)) ∧ w = w' := by
  have HM := Lib.hid hM
  clear hM
  go_enter Try.func25, Try.ntmps25
  go_wp2_with fail
  go_loopw [3, 4] (fun v3 v4 wr => ∃ i : Nat, v3 = .int .i64 (totW l i) ∧ v4 = .int .i64 i ∧ i ≤ n ∧ w = wr) (fun _ v4 _ => n - (intOf v4).toNat)
  case atStart => exact ⟨0, rfl, rfl, Nat.zero_le _, rfl⟩
  case round =>
    obtain ⟨i, rfl, rfl, hi, rfl⟩ := hrel
    by_cases hlt : i < n
    · obtain ⟨b, o, rfl, c0, c1, c2⟩ := Posts.at HM.out i hlt
      have HT : Hid (totW l (i + 1) = IntKind.i64.wrap (totW l i + pa l i)) := rfl
      go_wp2_with fail
      go_roundw
      case rel => exact ⟨i + 1, by rw [HT.out]; first | rfl | (rw [i64_left]), by go_num, hlt, trivial⟩
      case measure => simp [intOf]; omega
    · have hi' : i = n := by omega
      subst hi'
      go_wp2_with fail
      go_ret
      exact ⟨rfl, rfl⟩

set_option maxRecDepth 10000 in
theorem before_any (k1 k2 : Int) (t1 t2 : Name) (w : World) : Calls Try.prog 22 #[.agg #[.int .i64 k1, .string (bs t1)], .agg #[.int .i64 k2, .string (bs t2)]] w fun e w' => e = .returned (.bool (befA (k1, t1) (k2, t2))) ∧ Below w.heap.size w w' := by
  have hb1 := Joins.below_alloc1 w (.cells #[.int .i64 k1, .string (bs t1)] 39)
  have hb2 := Joins.below_alloc1 (w.alloc (.cells #[.int .i64 k1, .string (bs t1)] 39)) (.cells #[.int .i64 k2, .string (bs t2)] 39)
  have HB := Lib.hid (hb1.trans (hb2.mono hb1.size))
  have HX : Hid (Boxed2 ((w.alloc (.cells #[.int .i64 k1, .string (bs t1)] 39)).alloc (.cells #[.int .i64 k2, .string (bs t2)] 39)) w.heap.size (.int .i64 k1) (.string (bs t1)) 39) := Boxed2.step (World.alloc_heap_new w _) hb2
  have HY : Hid (Boxed2 ((w.alloc (.cells #[.int .i64 k1, .string (bs t1)] 39)).alloc (.cells #[.int .i64 k2, .string (bs t2)] 39)) (w.heap.size + 1) (.int .i64 k2) (.string (bs t2)) 39) := by
    have := World.alloc_heap_new (w.alloc (.cells #[.int .i64 k1, .string (bs t1)] 39)) (.cells #[.int .i64 k2, .string (bs t2)] 39)
    rw [show (w.alloc (.cells #[.int .i64 k1, .string (bs t1)] 39)).heap.size = w.heap.size + 1 from by simp] at this
    exact this
  have HV : Hid (befA (k1, t1) (k2, t2) = (decide (k1 < k2) || (decide (k1 = k2) && Op.bytesLess t1 t2))) := rfl
  have hs1 := bs_toList t1
  have hs2 := bs_toList t2
  clear hb1 hb2
  go_enter Try.func22, Try.ntmps22
  go_upto_region 1 with fail
  generalize (w.alloc (.cells #[.int .i64 k1, .string (bs t1)] 39)).alloc (.cells #[.int .i64 k2, .string (bs t2)] 39) = w1 at *
  have x0 := HX.out.c0
  have x1 := HX.out.c1
  have y0 := HY.out.c0
  have y1 := HY.out.c1
  by_cases h1 : k1 < k2
  · have e1 : decide (k1 < k2) = true := by simp [h1]
    rw [e1] at HV
    go_wp2_with fail
    go_ret
    exact ⟨by rw [HV.out]; rfl, HB.out⟩
  · have e1 : decide (k1 < k2) = false := by simp [h1]
    rw [e1] at HV
    by_cases h2 : k1 = k2
    · subst h2
      have e2 : decide (k1 = k1) = true := by simp
      rw [e2] at HV
      clear e2 e1
      go_wp2_with fail
      go_ret
      exact ⟨by rw [HV.out]; simp, HB.out⟩
    · have e2 : decide (k1 = k2) = false := by simp [h2]
      have e3 : (k1 == k2) = false := by simp [h2]
      rw [e2] at HV
      clear e2 h2
      go_wp2_with fail
      go_ret
      exact ⟨by rw [HV.out]; rfl, HB.out⟩

/-- An error, if something is the case. -/
def isE (b : Bool) (e0 : Int) : Int := if b = true then e0 else 0

theorem is_any (b : Bool) (e0 : Int) (w : World) : Calls Try.prog 29 #[.bool b, .int .i64 e0] w fun e w' => e = .returned (.int .i64 (isE b e0)) ∧ w = w' := by
  cases b
  all_goals
    go_enter Try.func29, Try.ntmps29
    go_wp2_with fail
    go_ret
    exact ⟨rfl, rfl⟩
end Go.Proofs.Ytafhdpalobalkaa
