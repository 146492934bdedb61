/- foyerref22.best: the walk; A region of which some operations write or make memory, in whatever order they come up: one step for each of them, whatever has come up, and one end. -/
import Derived.Test.YthabgljdndbphaaGreatDoorQPKM01
import Derived.Test.YthabgljdndbphaaGreatDoorQPKM14
import Derived.Deep.RegionHeld3

set_option linter.unusedVariables false
set_option linter.unusedSimpArgs false
namespace Go.Proofs.YthabgljdndbphaaGreatDoor
open Go.RowKit Go.IntWalk

set_option maxRecDepth 10000 in
set_option maxHeartbeats 3200000 in
theorem best_any (ra ga : Option Addr) (n c m d : Nat) (single : Bool) (G : List (Int × Int)) (hn : n ≤ 4000) (hm : m ≤ 4000) (hv : ValuesOk G) (hGL : G.length = m) (k : Nat) : ∀ (g : Nat) (la ua : Option Addr) (lc uc : Nat) (left : List Int) (used : List Bool) (w : World),
  g + k = m → Pairs w ga m G → Ints w la n left → Bools w ua n used → (∀ r, r < n → 0 ≤ ix left r ∧ ix left r ≤ 4000) →
  Calls Tryz.prog 47 #[.agg #[.slice ra n c, .slice ga m d, .bool single], .slice la n lc, .slice ua n uc, .int .i64 g] w fun e w' => e = .returned (.int .i64 (bestF single G k g left used)) ∧ Below w.heap.size w w' := by
 have HV := Lib.hid hv; have HGL := Lib.hid hGL
 clear hv hGL
 induction k with
 | zero =>
  intro g la ua lc uc left used w hg hG hL hU hlb
  have hb0 : Below w.heap.size w (w.alloc (.cells #[.slice ra n c, .slice ga m d, .bool single] 25)) := (Below.refl _ _).alloc (Nat.le_refl _) _
  have HBX := Lib.hid (Box.new (w := w) (vs := #[.slice ra n c, .slice ga m d, .bool single]) (T := 25) rfl)
  have HL := Lib.hid (hL.below hb0); have HU := Lib.hid (hU.below hb0); have HLL := Lib.hid hL.1; have HLB := Lib.hid hlb
  obtain rfl : g = m := by omega
  have t1 : ((g : Int) == (g : Int)) = true := by simp
  clear hG hL hU hg hlb
  go_enter Tryz.func47, Tryz.ntmps47
  go_upto_region 2 with fail
  generalize (w.alloc (.cells #[.slice ra n c, .slice ga g d, .bool single] 25)) = w1 at *
  have x2 := HBX.out.cell 2
  simp only [List.getElem?_toArray, List.getElem?_cons_zero, List.getElem?_cons_succ] at x2
  go_wp2_with fail
  go_loop [9] (fun v9 => ∃ i : Nat, v9 = .int .i64 i ∧ i ≤ n ∧ Hid (∀ q, q < i → ¬ badRun single left used q)) (fun v9 => n - (intOf v9).toNat)
  case atStart => exact ⟨0, rfl, Nat.zero_le _, fun q hq => absurd hq (by omega)⟩
  case round =>
   obtain ⟨i, rfl, hi, HN⟩ := hrel
   by_cases hlt : i < n
   ·
    obtain ⟨b, o, rfl, c1⟩ := HL.out.2 i hlt
    obtain ⟨b', o', rfl, c2⟩ := HU.out.2 i hlt
    have hbd := HLB.out i hlt
    have HSTEP : Hid (¬ badRun single left used i → ∀ q, q < i + 1 → ¬ badRun single left used q) := fun h q hq => by
     by_cases e : q = i
     ·
      rw [e]; exact h
     ·
      exact HN.out q (by omega)
    cases single
    ·
     go_wp2_with fail
     go_round
     case rel => exact ⟨i + 1, by go_num, by omega, HSTEP.out (by simp [badRun])⟩
     case measure => simp [intOf]; omega
    ·
     cases hu : bx used i
     ·
      rw [hu] at c2
      have HS2 := Lib.hid (HSTEP.out (by simp [badRun, oneLeft, hu]))
      clear hu HSTEP
      go_wp2_with fail
      go_round
      case rel => exact ⟨i + 1, by go_num, by omega, HS2.out⟩
      case measure => simp [intOf]; omega
     ·
      rw [hu] at c2
      by_cases h1 : ix left i = 1
      ·
       have HFIN : Hid (bestF true G 0 g left used = -1) := by
        show _ = _
        rw [bestF, if_pos ⟨rfl, i, by rw [HLL.out]; exact hlt, by simp [oneLeft, hu, h1]⟩]
       rw [h1] at c1
       clear hu h1 HSTEP hbd
       go_wp2_with fail
       go_ret
       exact ⟨ret_int HFIN.out.symm, hb0⟩
      ·
       have HS2 := Lib.hid (HSTEP.out (by simp [badRun, oneLeft, h1]))
       obtain ⟨x, hx⟩ : ∃ x, ix left i = x := ⟨_, rfl⟩
       rw [hx] at c1 h1 hbd
       have e1 : (x == 1) = false := by simp; exact h1
       clear hu h1 hx HSTEP
       go_wp2_with fail
       go_round
       case rel => exact ⟨i + 1, by go_num, by omega, HS2.out⟩
       case measure => simp [intOf]; omega
   ·
    have HFIN : Hid (bestF single G 0 g left used = 0) := by
     show _ = _
     rw [bestF, if_neg]
     rintro ⟨h1, r, hr, h2⟩
     rw [HLL.out] at hr
     exact HN.out r (by omega) ⟨h1, h2⟩
    go_wp2_with fail
    go_ret
    exact ⟨ret_int HFIN.out.symm, hb0⟩
 | succ k ih =>
  intro g la ua lc uc left used w hg hG hL hU hlb
  have hb0 : Below w.heap.size w (w.alloc (.cells #[.slice ra n c, .slice ga m d, .bool single] 25)) := (Below.refl _ _).alloc (Nat.le_refl _) _
  have HBX0 := Lib.hid (Box.new (w := w) (vs := #[.slice ra n c, .slice ga m d, .bool single]) (T := 25) rfl)
  have HL := Lib.hid hL; have HU := Lib.hid hU; have HG := Lib.hid hG; have HLL := Lib.hid hL.1; have HUL := Lib.hid hU.1; have HLB := Lib.hid hlb; have HIH := Lib.hid ih
  have HGK : Hid (g + 1 + k = m) := by show _ = _; omega
  have hgm : g < m := by omega
  have hgg := HV.out g (by rw [HGL.out]; exact hgm)
  obtain ⟨gb, go, rfl, d1, d2⟩ := HG.out.2 g hgm
  obtain ⟨s, hs⟩ : ∃ x, gs G g = x := ⟨_, rfl⟩
  obtain ⟨v, hv⟩ : ∃ x, gv G g = x := ⟨_, rfl⟩
  rw [hs] at d1 hgg; rw [hv] at d2 hgg
  have HD := Lib.hid ((⟨d1, d2⟩ : _ ∧ _))
  have HBB : Hid (∀ l u, -1 ≤ bestF single G k (g + 1) l u ∧ bestF single G k (g + 1) l u ≤ 12000000 * k) := fun l u => bestF_bounds HV.out k (g + 1) l u (by rw [HGL.out]; omega)
  have HFIN : Hid (bestF single G (k + 1) g left used = bestLoop (bestF single G k (g + 1)) s v left used (bestF single G k (g + 1) left used) n) := by
   show _ = _
   rw [bestF, hs, hv, HLL.out]
  have t1 : ((g : Int) == (m : Int)) = false := by simp; omega
  have hk4 : k ≤ 4000 := by omega
  have p0 : 0 ≤ s * v := Int.mul_nonneg (by omega) (by omega)
  have p1 : s * v ≤ 12 * v := Int.mul_le_mul_of_nonneg_right hgg.1.2 hgg.2.1
  have p2 : s * v ≤ 12000000 := by omega
  clear hG hL hU hg hlb ih hs hv d1 d2 p1
  go_enter Tryz.func47, Tryz.ntmps47
  go_upto_region 7 with fail
  generalize (w.alloc (.cells #[.slice ra n c, .slice (some ⟨gb, go, none⟩) m d, .bool single] 25)) = w1 at *
  have HBX := Lib.hid ((⟨HBX0.out.cell 0, HBX0.out.cell 1, HBX0.out.cell 2⟩ : _ ∧ _ ∧ _))
  have x0 := HBX0.out.cell 0
  have x1 := HBX0.out.cell 1
  have x2 := HBX0.out.cell 2
  simp only [List.getElem?_toArray, List.getElem?_cons_zero, List.getElem?_cons_succ] at x0 x1 x2
  clear HBX
  go_wp2_with fail
  refine (HIH.out (g + 1) la ua lc uc left used w1 HGK.out (HG.out.below hb0) (HL.out.below hb0) (HU.out.below hb0) HLB.out).mono ?_
  rintro e w2 ⟨rfl, hb2⟩
  have HBX2 := Lib.hid (HBX0.out.below hb2)
  have HBW2 := Lib.hid (hb0.trans (hb2.mono hb0.size))
  have hb1 := HBB.out left used
  obtain ⟨o1, ho1⟩ : ∃ x, bestF single G k (g + 1) left used = x := ⟨_, rfl⟩
  rw [ho1] at HFIN hb1
  rw [ho1]
  clear x0 x1 x2 HBX0 hb0 hb2 ho1
  go_wp2_with fail
  go_loopw [10, 11, 12, 13, 14] (fun v10 v11 _ _ _ wr => ∃ (i : Nat) (out : Int), v11 = .int .i64 i ∧ v10 = .int .i64 out ∧ i ≤ n ∧ -1 ≤ out ∧ out ≤ 12000000 * k + 12000000 ∧ Hid (bestLoop (bestF single G k (g + 1)) s v left used o1 i = out) ∧
    Hid (Below w.heap.size w wr) ∧ Hid (Box wr w.heap.size 25 #[.slice ra n c, .slice (some ⟨gb, go, none⟩) m d, .bool single]))
   (fun _ v11 _ _ _ _ => n - (intOf v11).toNat)
  case atStart => exact ⟨0, o1, rfl, rfl, Nat.zero_le _, hb1.1, by omega, rfl, HBW2, HBX2⟩
  case round =>
   clear HBW2 HBX2
   obtain ⟨i, out, rfl, rfl, hi, hout0, hout1, HLP, HBW, HBX⟩ := hrel
   by_cases hlt : i < n
   ·
    obtain ⟨b, o, rfl, c1⟩ := (HL.out.below HBW.out).2 i hlt
    have x1 := HBX.out.cell 1
    have d1 := Below.cell_of HBW.out HD.out.1
    have d2 := Below.cell_of HBW.out HD.out.2
    simp only [List.getElem?_toArray, List.getElem?_cons_zero, List.getElem?_cons_succ] at x1
    have hbd := HLB.out i hlt
    obtain ⟨x, hx⟩ : ∃ x, ix left i = x := ⟨_, rfl⟩
    rw [hx] at c1 hbd
    by_cases hxs : x < s
    ·
     have e1 : decide (x < s) = true := by simp; exact hxs
     have HSTEP : Hid (bestLoop (bestF single G k (g + 1)) s v left used o1 (i + 1) = out) := by
      show _ = _
      rw [bestLoop, hx, if_pos hxs]; exact HLP.out
     clear hx hxs
     go_wp2_with fail
     go_quiet (fail)
     go_wp2_with fail
     go_roundw
     case rel => exact ⟨i + 1, out, by go_num, rfl, by omega, hout0, hout1, HSTEP, below_drewN HBW.out _, HBX.out⟩
     case measure => simp [intOf]; omega
    ·
     have e1 : decide (x < s) = false := by simp; omega
     have hxs2 : s ≤ x := by omega
     have HSTEP : Hid (bestLoop (bestF single G k (g + 1)) s v left used o1 (i + 1) = if 0 ≤ bestF single G k (g + 1) (left.set i (x - s)) (used.set i true) then max out (bestF single G k (g + 1) (left.set i (x - s)) (used.set i true) + s * v) else out) := by
      show _ = _
      rw [bestLoop, hx, if_neg hxs, HLP.out]
     have HX := Lib.hid hx
     clear hxs hx
     go_wp2_with fail
     go_quiet (fail)
     go_upto_region 13 with fail
     generalize hw4 : World.drewN wr _ = w4
     have hb4 : Below wr.heap.size wr w4 := by rw [← hw4]; exact below_drewN (Below.refl _ _) _
     have HBW4 := Lib.hid (HBW.out.trans (hb4.mono HBW.out.size))
     have HBX4 := Lib.hid (HBX.out.below hb4)
     clear hw4 hb4 HBW HBX c1 x1 d1 d2 e1
     obtain ⟨l1, lc1, w5, hcp, hb5, hol⟩ := copy_ints w4 (some ⟨b, o, none⟩) n lc left (Nat.le_trans hn (by decide)) (HL.out.below HBW4.out)
     obtain ⟨lb, rfl, hlb, hlr⟩ := hol.2 (Nat.lt_of_le_of_lt (Nat.zero_le _) hlt)
     have HB5 := Lib.hid hb5; have HLR := Lib.hid hlr
     clear hol hb5 hlr
     go_upto_region 14 with (at_builtin; refine wpList_run_append rfl _ _ 22 rfl 22 rfl hcp rfl rfl ?_)
     clear hcp
     obtain ⟨u1, uc1, w6, hcp, hb6, hou⟩ := copy_bools w5 ua n uc used (Nat.le_trans hn (by decide)) (HU.out.below (HBW4.out.trans (HB5.out.mono HBW4.out.size)))
     obtain ⟨ub, rfl, hub, hur⟩ := hou.2 (Nat.lt_of_le_of_lt (Nat.zero_le _) hlt)
     have HB6 := Lib.hid hb6; have HUR := Lib.hid hur
     have hub4 : w4.heap.size ≤ ub := Nat.le_trans HB5.out.size hub
     clear hou hb6 hur
     go_upto_region 15 with (at_builtin; refine wpList_run_append rfl _ _ 77 rfl 77 rfl hcp rfl rfl ?_)
     clear hcp
     have HBW6 := Lib.hid (HBW4.out.trans ((HB5.out.trans (HB6.out.mono HB5.out.size)).mono HBW4.out.size))
     have HBX6 := Lib.hid (HBX4.out.below (HB5.out.trans (HB6.out.mono HB5.out.size)))
     have HLR6 := Lib.hid (HLR.out.below HB6.out)
     have hne : lb ≠ ub := Nat.ne_of_lt (Nat.lt_of_lt_of_le HLR.out.lt hub)
     have x1 := HBX6.out.cell 1
     have d1 := Below.cell_of HBW6.out HD.out.1
     have rr := HLR6.out.cell i (by rw [HLL.out]; exact hlt)
     rw [HX.out] at rr
     have rf := HLR6.out.free i
     simp only [List.getElem?_toArray, List.getElem?_cons_zero, List.getElem?_cons_succ] at x1
     have hw : wrap64 (x - s) = x - s := wrap64_in _ (by omega)
     have HSETL : Hid (IntRow (w6.setCell ⟨lb, i, none⟩ (.int .i64 (x - s))) lb 3 (left.set i (x - s)) ∧ BoolRow (w6.setCell ⟨lb, i, none⟩ (.int .i64 (x - s))) ub 4 used ∧ Below w4.heap.size w4 (w6.setCell ⟨lb, i, none⟩ (.int .i64 (x - s)))) :=
      ⟨HLR6.out.set i (by rw [HLL.out]; exact hlt) _, HUR.out.of_heap (heap_set _ (fun e => hne e.symm)), (HB5.out.trans (HB6.out.mono HB5.out.size)).setCell hlb _⟩
     go_cut [83] (fun _ wx => Hid (IntRow wx lb 3 (left.set i (x - s)) ∧ BoolRow wx ub 4 used ∧ Below w4.heap.size w4 wx))
     case first =>
      go_region
      all_goals
       go_wp2_with fail
       go_meet
      all_goals
       case rel => exact ⟨HSETL.out.1.drew1, HSETL.out.2.1, HSETL.out.2.2.trans (((Below.refl _ _).drew).mono HSETL.out.2.2.size)⟩
     case rest =>
      clear HSETL HLR6 HUR HLR HBX6 HBW6 x1 d1 rr rf hw HB5 HB6
      have uu := hcut.out.2.1.cell i (by rw [HUL.out]; exact hlt)
      have uf := hcut.out.2.1.free i
      have HSETU : Hid (IntRow (wc.setCell ⟨ub, i, none⟩ (.bool true)) lb 3 (left.set i (x - s)) ∧ BoolRow (wc.setCell ⟨ub, i, none⟩ (.bool true)) ub 4 (used.set i true) ∧ Below w4.heap.size w4 (wc.setCell ⟨ub, i, none⟩ (.bool true))) :=
       ⟨hcut.out.1.of_heap (heap_set _ hne), hcut.out.2.1.set i (by rw [HUL.out]; exact hlt) _, hcut.out.2.2.setCell hub4 _⟩
      clear hcut
      go_upto_region 17 with fail
      generalize (wc.setCell ⟨ub, i, none⟩ (.bool true)) = w7 at *
      clear uu uf
      have HBX7 := Lib.hid (HBX4.out.below HSETU.out.2.2)
      have HBW7 := Lib.hid (HBW4.out.trans (HSETU.out.2.2.mono HBW4.out.size))
      have HL7 : Hid (Ints w7 (some ⟨lb, 0, none⟩) n (left.set i (x - s))) := by
       have h := HSETU.out.1.ints
       rw [List.length_set, HLL.out] at h
       exact h
      have HU7 : Hid (Bools w7 (some ⟨ub, 0, none⟩) n (used.set i true)) := by
       have h := HSETU.out.2.1.bools
       rw [List.length_set, HUL.out] at h
       exact h
      have HLB7 : Hid (∀ r, r < n → 0 ≤ ix (left.set i (x - s)) r ∧ ix (left.set i (x - s)) r ≤ 4000) := fun r hr => by
       rw [ix_set _ _ _ _ (by rw [HLL.out]; exact hlt)]
       have := HLB.out r hr
       split <;> omega
      have x0 := HBX7.out.cell 0
      have x1 := HBX7.out.cell 1
      have x2 := HBX7.out.cell 2
      simp only [List.getElem?_toArray, List.getElem?_cons_zero, List.getElem?_cons_succ] at x0 x1 x2
      go_wp2_with fail
      refine (HIH.out (g + 1) (some ⟨lb, 0, none⟩) (some ⟨ub, 0, none⟩) lc1 uc1 (left.set i (x - s)) (used.set i true) w7 HGK.out (HG.out.below HBW7.out) HL7.out HU7.out HLB7.out).mono ?_
      rintro e w8 ⟨rfl, hb8⟩
      have HBX8 := Lib.hid (HBX7.out.below hb8)
      have HBW8 := Lib.hid (HBW7.out.trans (hb8.mono HBW7.out.size))
      have hbz := HBB.out (left.set i (x - s)) (used.set i true)
      obtain ⟨z, hz⟩ : ∃ z, bestF single G k (g + 1) (left.set i (x - s)) (used.set i true) = z := ⟨_, rfl⟩
      rw [hz] at hbz HSTEP
      rw [hz]
      clear x0 x1 x2 hz hb8 HBX7 HBW7 HL7 HU7 HLB7 HSETU HBX4 HBW4
      by_cases h0 : 0 ≤ z
      ·
       have e2 : decide (0 ≤ z) = true := by simp; exact h0
       rw [if_pos h0] at HSTEP
       have x1 := HBX8.out.cell 1
       have d1 := Below.cell_of HBW8.out HD.out.1
       have d2 := Below.cell_of HBW8.out HD.out.2
       simp only [List.getElem?_toArray, List.getElem?_cons_zero, List.getElem?_cons_succ] at x1
       have hm1 : -1 ≤ max out (z + s * v) ∧ max out (z + s * v) ≤ 12000000 * k + 12000000 := by omega
       have hw1 : IntKind.i64.wrap (s * v) = s * v := (i64_left _).trans (wrap64_in _ (by omega))
       have hw2 : IntKind.i64.wrap (z + s * v) = z + s * v := (i64_left _).trans (wrap64_in _ (by omega))
       go_wp2_with fail
       go_quiet (fail)
       clear hw1 hw2
       go_wp2_with fail
       go_roundw
       case rel => exact ⟨i + 1, max out (z + s * v), by go_num, max_if out (z + s * v), by omega, hm1.1, hm1.2, HSTEP, below_drewN HBW8.out _, HBX8.out⟩
       case measure => simp [intOf]; omega
      ·
       have e2 : decide (0 ≤ z) = false := by simp; omega
       rw [if_neg h0] at HSTEP
       go_wp2_with fail
       go_roundw
       case rel => exact ⟨i + 1, out, by go_num, rfl, by omega, hout0, hout1, HSTEP, HBW8.out, HBX8.out⟩
       case measure => simp [intOf]; omega
   ·
    obtain rfl : i = n := by omega
    go_wp2_with fail
    go_ret
    exact ⟨ret_int (HLP.out.symm.trans HFIN.out.symm), HBW.out⟩
end Go.Proofs.YthabgljdndbphaaGreatDoor

namespace Go.Proofs.YthabgljdndbphaaGreatDoor
open Go.RowKit

/-- The frame with these values in the effects' slots. -/
def putAll (a : Act) : List (Nat × Tmp) → (Nat → Value) → Nat → Act
 | [], _, _ => a
 | e :: es, v, k => putAll (a.put (some e.2) (v k)) es v (k + 1)

def upd (v : Nat → Value) (k : Nat) (u : Value) : Nat → Value := fun j => if j = k then u else v j

theorem put_put (a : Act) (d : Tmp) (u u' : Value) : (a.put (some d) u).put (some d) u' = a.put (some d) u' := by
 simp [Act.put]

theorem putAll_congr : ∀ (es : List (Nat × Tmp)) (a : Act) (v v' : Nat → Value) (k : Nat), (∀ j, k ≤ j → v j = v' j) → putAll a es v k = putAll a es v' k := by
 intro es
 induction es with
 | nil => intro a v v' k _; rfl
 | cons e es ih => intro a v v' k h; rw [putAll, putAll, h k (by omega), ih _ v v' (k + 1) (fun j hj => h j (by omega))]

theorem putAll_put : ∀ (es : List (Nat × Tmp)) (a : Act) (v : Nat → Value) (k : Nat) (d : Tmp) (u : Value), (∀ e ∈ es, e.2 ≠ d) → (putAll a es v k).put (some d) u = putAll (a.put (some d) u) es v k := by
 intro es
 induction es with
 | nil => intro a v k d u _; rfl
 | cons e es ih =>
  intro a v k d u h
  have he := h e (by simp)
  rw [putAll, putAll, ih _ _ _ _ _ (fun x hx => h x (by simp [hx])), Act.put_comm]
  intro t ht
  simp only [Option.some.injEq] at ht
  subst ht
  simp only [ne_eq, Option.some.injEq]
  exact fun h => he h.symm

theorem putAll_upd : ∀ (es : List (Nat × Tmp)) (a : Act) (v : Nat → Value) (k j : Nat) (e : Nat × Tmp) (u : Value), es.Pairwise (fun x y => x.2 ≠ y.2) → es[j]? = some e → (putAll a es v k).put (some e.2) u = putAll a es (upd v (k + j) u) k := by
 intro es
 induction es with
 | nil => intro a v k j e u _ h; simp at h
 | cons x es ih =>
  intro a v k j e u hp h
  rw [List.pairwise_cons] at hp
  cases j with
  | zero =>
   obtain rfl : x = e := by simpa using h
   rw [putAll, putAll, putAll_put _ _ _ _ _ _ (fun y hy => fun h => hp.1 y hy h.symm), put_put]
   have e1 : upd v (k + 0) u k = u := by simp [upd]
   rw [e1]
   exact putAll_congr _ _ _ _ _ (fun j hj => by unfold upd; rw [if_neg (by omega)])
  | succ j =>
   rw [putAll, putAll, ih _ v (k + 1) j e u hp.2 (by simpa using h)]
   have e1 : upd v (k + (j + 1)) u k = v k := by unfold upd; rw [if_neg (by omega)]
   rw [e1, show k + 1 + j = k + (j + 1) from by omega]

/-- What has come up: those of the effects whose bit is set. -/
def setBits (listed : Array Bool) : List (Nat × Tmp) → List Bool → Array Bool
 | e :: es, b :: bs => setBits (if b then listed.setIfInBounds e.1 true else listed) es bs
 | _, _ => listed

def allBits : Nat → List (List Bool)
 | 0 => [[]]
 | n + 1 => (allBits n).flatMap fun l => [false :: l, true :: l]

theorem mem_allBits : ∀ (l : List Bool), l ∈ allBits l.length := by
 intro l
 induction l with
 | nil => simp [allBits]
 | cons b l ih =>
  simp only [List.length_cons, allBits, List.mem_flatMap]
  exact ⟨l, ih, by cases b <;> simp⟩

theorem setBits_set : ∀ (es : List (Nat × Tmp)) (listed : Array Bool) (D : List Bool) (j : Nat) (e : Nat × Tmp), D.length = es.length → es[j]? = some e → (setBits listed es D).setIfInBounds e.1 true = setBits listed es (D.set j true) := by
 have sw : ∀ (es : List (Nat × Tmp)) (listed : Array Bool) (D : List Bool) (i : Nat), (setBits listed es D).setIfInBounds i true = setBits (listed.setIfInBounds i true) es D := by
  intro es
  induction es with
  | nil => intro listed D i; cases D <;> rfl
  | cons x es ih =>
   intro listed D i
   cases D with
   | nil => rfl
   | cons b D =>
    rw [setBits, setBits, ih]
    cases b
    ·
     rfl
    ·
     simp only [if_true]
     by_cases h : i = x.1
     ·
      rw [h]
     ·
      rw [Array.setIfInBounds_comm _ _ (fun e => h e.symm)]
 intro es
 induction es with
 | nil => intro listed D j e _ h; simp at h
 | cons x es ih =>
  intro listed D j e hl h
  cases D with
  | nil => simp at hl
  | cons b D =>
   cases j with
   | zero =>
    obtain rfl : x = e := by simpa using h
    rw [List.set_cons_zero, setBits, setBits, sw]
    cases b
    ·
     simp
    ·
     simp
   | succ j =>
    rw [List.set_cons_succ, setBits, setBits]
    exact ih _ D j e (by simpa using hl) (by simpa using h)

/-- With an effect all that it waits for has come up. -/
def closedB (need : List (List Nat)) (n : Nat) (D : List Bool) : Bool := (List.range n).all fun k => !(D.getD k false) || (need.getD k []).all fun j => D.getD j false

/-- Of the effects that have not come up, those may come up next whose bits in 'need' are set; nothing else may. -/
def readyOk (md : Region.Mode) (ops : Array Oper) (listed : Array Bool) (es : List (Nat × Tmp)) (need : List (List Nat)) : Bool :=
 (allBits es.length).all fun D => (D.all id) || !(closedB need es.length D) ||
  (!(Region.ready md ops (setBits listed es D)).isEmpty && (Region.ready md ops (setBits listed es D)).all fun i =>
   (List.range es.length).any fun k => (((es[k]?).map Prod.fst).getD 0 == i) && (!(D.getD k true) && ((need.getD k []).all fun n => D.getD n false)))

section
variable {P : Program} {ops : Array Oper} {Q : Exit → Act → World → Prop} {md : Region.Mode} {S : World → Prop}

/-- A take, its slot named. -/
theorem take_at {i : Nat} {oi : Oper} {v : Value} {fuel : Nat} {listed : Array Bool} {a : Act} {w : World} (d : Tmp) (hi : ops[i]? = some oi) (hd : oi.dst = some d)
  (hs : Region.noSelect ops = true) (hf : Region.free md ops listed i = true) (hr : (Region.ready md ops listed).contains i = true)
  (hQ : ∀ c a w, Q (.panic c) (a.put oi.dst v) w → Q (.panic c) a w) (hy : YieldsIf P ops S oi v a) (hS : S w)
  (h : wpAnyH P md ops Q S fuel (listed.setIfInBounds i true) (a.put (some d) v) w) : wpAnyH P md ops Q S (fuel + 1) listed a w :=
 wpAnyH_take hi hs hf hr hQ hy hS (by rw [hd]; exact h)

/-- What holds behind some of the effects. -/
structure EffInv (F : Nat → Value → World → Prop) (bk : Nat → Value → Option Nat) (W0 : World) (n : Nat) (D : List Bool) (v : Nat → Value) (w : World) : Prop where
 below : Below W0.heap.size W0 w
 fact : ∀ k, k < n → D.getD k false = true → F k (v k) w
 blk : ∀ k b, k < n → D.getD k false = true → bk k (v k) = some b → W0.heap.size ≤ b ∧ b < w.heap.size
 apart : ∀ j k b, j < n → k < n → j ≠ k → D.getD j false = true → D.getD k false = true → bk j (v j) = some b → bk k (v k) ≠ some b

theorem wpAnyH_effects (es : List (Nat × Tmp)) (need : List (List Nat)) (F : Nat → Value → World → Prop) (bk : Nat → Value → Option Nat) (W0 : World) (listed : Array Bool) (a0 : Act) (fuel : Nat)
  (hd : es.Pairwise (fun x y => x.2 ≠ y.2)) (hready : readyOk md ops listed es need = true)
  (hF : ∀ k u w w', F k u w → Below w.heap.size w w' → F k u w')
  (hstep : ∀ k e v w, k < es.length → es[k]? = some e → S w → Below W0.heap.size W0 w → (∀ n ∈ need.getD k [], F n (v n) w) →
   wpOp P ops Q e.1 (fun a' w' => ∃ u, a' = (putAll a0 es v 0).put (some e.2) u ∧ S w' ∧ Below w.heap.size w w' ∧ F k u w' ∧ ∀ b, bk k u = some b → w.heap.size ≤ b ∧ b < w'.heap.size) (putAll a0 es v 0) w)
  (hend : ∀ v w, S w → EffInv F bk W0 es.length (List.replicate es.length true) v w → wpAnyH P md ops Q S fuel (setBits listed es (List.replicate es.length true)) (putAll a0 es v 0) w) :
  ∀ (m : Nat) (D : List Bool) (v : Nat → Value) (w : World), D.length = es.length → D.countP (fun b => !b) = m → closedB need es.length D = true → S w → EffInv F bk W0 es.length D v w → wpAnyH P md ops Q S (fuel + m) (setBits listed es D) (putAll a0 es v 0) w := by
 intro m
 induction m with
 | zero =>
  intro D v w hl hc _ hS hI
  have hD : D = List.replicate es.length true := by
   rw [List.countP_eq_zero] at hc
   exact List.eq_replicate_iff.mpr ⟨hl, fun b hb => by have := hc b hb; simpa using this⟩
  subst hD
  exact hend v w hS hI
 | succ m ih =>
  intro D v w hl hc hcl hS hI
  have hr : ((D.all id) || !(closedB need es.length D) || (!(Region.ready md ops (setBits listed es D)).isEmpty && (Region.ready md ops (setBits listed es D)).all fun i =>
    (List.range es.length).any fun k => (((es[k]?).map Prod.fst).getD 0 == i) && (!(D.getD k true) && ((need.getD k []).all fun n => D.getD n false)))) = true := by
   unfold readyOk at hready
   rw [List.all_eq_true] at hready
   exact hready D (by rw [← hl]; exact mem_allBits D)
  have hna : D.all id = false := by
   cases h : D.all id with
   | false => rfl
   | true =>
    rw [List.all_eq_true] at h
    have : D.countP (fun b => !b) = 0 := List.countP_eq_zero.mpr (fun b hb => by have := h b hb; simpa using this)
    omega
  rw [hna, hcl, Bool.not_true, Bool.false_or, Bool.false_or, Bool.and_eq_true] at hr
  obtain ⟨hne, hall⟩ := hr
  refine ⟨fun h0 => by rw [h0] at hne; simp at hne, fun i hi => ?_⟩
  rw [List.all_eq_true] at hall
  have hi' := hall i hi
  rw [List.any_eq_true] at hi'
  obtain ⟨k, hk, hk2⟩ := hi'
  rw [List.mem_range] at hk
  simp only [Bool.and_eq_true, beq_iff_eq, Bool.not_eq_true', List.all_eq_true] at hk2
  obtain ⟨e1, e2, e3⟩ := hk2
  obtain ⟨e, he⟩ : ∃ e, es[k]? = some e := ⟨es[k], by simp [hk]⟩
  rw [he] at e1
  simp only [Option.map_some, Option.getD_some] at e1
  subst e1
  have e2' : D[k]? = some false := by
   have : k < D.length := by omega
   simp only [List.getD_eq_getElem?_getD, this, List.getElem?_eq_getElem, Option.getD_some] at e2 ⊢
   rw [e2]
  have hneed : ∀ n ∈ need.getD k [], F n (v n) w := fun n hn => by
   have h := e3 n hn
   have hlt : n < es.length := by
    rcases Nat.lt_or_ge n D.length with h' | h'
    ·
     omega
    ·
     simp [List.getD_eq_getElem?_getD, List.getElem?_eq_none h'] at h
   exact hI.fact n hlt h
  refine wpOp_mono (fun a' w' h => ?_) (hstep k e v w hk he hS hI.below hneed)
  obtain ⟨u, rfl, hS', hb, hFu, hblk⟩ := h
  refine ⟨hS', ?_⟩
  rw [putAll_upd es a0 v 0 k e u hd he, setBits_set es listed D k e hl he, Nat.zero_add]
  have hset : ∀ j, (D.set k true).getD j false = true → j = k ∨ D.getD j false = true := fun j hj => by
   by_cases h : j = k
   ·
    exact Or.inl h
   ·
    right
    rw [List.getD_eq_getElem?_getD, List.getElem?_set, if_neg (fun e => h e.symm)] at hj
    rw [List.getD_eq_getElem?_getD]; exact hj
  have hvo : ∀ j, j ≠ k → upd v k u j = v j := fun j hj => by unfold upd; rw [if_neg hj]
  have hvk : upd v k u k = u := by unfold upd; rw [if_pos rfl]
  refine ih (D.set k true) (upd v k u) w' (by rw [List.length_set]; exact hl) ?_ ?_ hS' ⟨hI.below.trans (hb.mono hI.below.size), fun j hj hDj => ?_, fun j b hj hDj hbj => ?_, fun i j b hi' hj hij hDi hDj hbi => ?_⟩
  ·
   have hkl : k < D.length := by omega
   have hx := List.take_append_drop k D
   have hdr : D.drop k = false :: D.drop (k + 1) := by
    rw [List.drop_eq_getElem_cons hkl]
    have := List.getElem?_eq_some_iff.1 e2'
    rw [this.2]
   have hst : D.set k true = D.take k ++ true :: D.drop (k + 1) := by rw [List.set_eq_take_append_cons_drop, if_pos hkl]
   rw [← hx, hdr, List.countP_append, List.countP_cons] at hc
   rw [hst, List.countP_append, List.countP_cons]
   simp at hc ⊢
   omega
  ·
   have hkl : k < D.length := by omega
   have hmono : ∀ j, D.getD j false = true → (D.set k true).getD j false = true := fun j hj => by
    rw [List.getD_eq_getElem?_getD, List.getElem?_set]
    split
    ·
     simp
    ·
     rw [List.getD_eq_getElem?_getD] at hj; exact hj
   unfold closedB at hcl ⊢
   rw [List.all_eq_true] at hcl ⊢
   intro j hj
   have h1 := hcl j hj
   rw [Bool.or_eq_true, List.all_eq_true] at h1 ⊢
   by_cases hjk : j = k
   ·
    subst hjk
    exact Or.inr (fun n hn => hmono n (e3 n hn))
   ·
    rcases h1 with h1 | h1
    ·
     left
     rw [List.getD_eq_getElem?_getD, List.getElem?_set, if_neg (fun e => hjk e.symm), ← List.getD_eq_getElem?_getD]
     exact h1
    ·
     exact Or.inr (fun n hn => hmono n (h1 n hn))
  ·
   by_cases h : j = k
   ·
    subst h; rw [hvk]; exact hFu
   ·
    rw [hvo j h]
    exact hF _ _ _ _ (hI.fact j hj ((hset j hDj).resolve_left h)) hb
  ·
   by_cases h : j = k
   ·
    subst h; rw [hvk] at hbj; have := hblk b hbj; exact ⟨Nat.le_trans hI.below.size this.1, this.2⟩
   ·
    rw [hvo j h] at hbj
    have := hI.blk j b hj ((hset j hDj).resolve_left h) hbj
    exact ⟨this.1, Nat.lt_of_lt_of_le this.2 hb.size⟩
  ·
   by_cases h : i = k
   ·
    subst h
    have hji : j ≠ i := fun e => hij e.symm
    rw [hvk] at hbi
    rw [hvo j hji]
    intro hbj
    have h1 := hI.blk j b hj ((hset j hDj).resolve_left hji) hbj
    have h2 := hblk b hbi
    omega
   ·
    rw [hvo i h] at hbi
    by_cases h' : j = k
    ·
     subst h'
     rw [hvk]
     intro hbj
     have h1 := hI.blk i b hi' ((hset i hDi).resolve_left h) hbi
     have h2 := hblk b hbj
     omega
    ·
     rw [hvo j h']
     exact hI.apart i j b hi' hj hij ((hset i hDi).resolve_left h) ((hset j hDj).resolve_left h') hbi

theorem setBits_none : ∀ (es : List (Nat × Tmp)) (listed : Array Bool), setBits listed es (List.replicate es.length false) = listed := by
 intro es
 induction es with
 | nil => intro listed; rfl
 | cons e es ih => intro listed; rw [List.length_cons, List.replicate_succ, setBits]; exact ih _

theorem put_same (a : Act) (d : Tmp) : a.put (some d) (a.tmps.getD d undef) = a := by
 cases a with
 | mk tmps defers =>
  simp only [Act.put, Act.mk.injEq, and_true]
  apply Array.ext
  ·
   simp
  ·
   intro i h1 h2
   rw [Array.getElem_setIfInBounds (by simpa using h1)]
   split
   ·
    rename_i e; subst e; simp [Array.getD, h2]
   ·
    rfl

theorem putAll_same : ∀ (es : List (Nat × Tmp)) (a : Act) (v : Nat → Value) (k : Nat), (∀ j e, es[j]? = some e → v (k + j) = a.tmps.getD e.2 undef) → putAll a es v k = a := by
 intro es
 induction es with
 | nil => intro a v k _; rfl
 | cons e es ih =>
  intro a v k h
  have h0 := h 0 e rfl
  rw [Nat.add_zero] at h0
  rw [putAll, h0, put_same]
  exact ih a v (k + 1) (fun j x hx => by rw [← h (j + 1) x (by simpa using hx)]; congr 1; omega)

theorem wpAnyH_effects0 (es : List (Nat × Tmp)) (need : List (List Nat)) (F : Nat → Value → World → Prop) (bk : Nat → Value → Option Nat) (listed : Array Bool) (a0 : Act) (fuel : Nat) (w : World)
  (hd : es.Pairwise (fun x y => x.2 ≠ y.2)) (hready : readyOk md ops listed es need = true)
  (hF : ∀ k u w w', F k u w → Below w.heap.size w w' → F k u w') (hS : S w)
  (hstep : ∀ k e v w1, k < es.length → es[k]? = some e → S w1 → Below w.heap.size w w1 → (∀ n ∈ need.getD k [], F n (v n) w1) →
   wpOp P ops Q e.1 (fun a' w' => ∃ u, a' = (putAll a0 es v 0).put (some e.2) u ∧ S w' ∧ Below w1.heap.size w1 w' ∧ F k u w' ∧ ∀ b, bk k u = some b → w1.heap.size ≤ b ∧ b < w'.heap.size) (putAll a0 es v 0) w1)
  (hend : ∀ v w1, S w1 → EffInv F bk w es.length (List.replicate es.length true) v w1 → wpAnyH P md ops Q S fuel (setBits listed es (List.replicate es.length true)) (putAll a0 es v 0) w1) :
  wpAnyH P md ops Q S (fuel + es.length) listed a0 w := by
 have h0 : putAll a0 es (fun k => a0.tmps.getD ((es[k]?).getD (0, 0)).2 undef) 0 = a0 := putAll_same es a0 _ 0 (fun j e he => by rw [Nat.zero_add, he]; rfl)
 have h := wpAnyH_effects es need F bk w listed a0 fuel hd hready hF hstep hend es.length (List.replicate es.length false) (fun k => a0.tmps.getD ((es[k]?).getD (0, 0)).2 undef) w (by simp) (by simp [List.countP_replicate]) (by unfold closedB; rw [List.all_eq_true]; intro j hj; have := List.mem_range.mp hj; simp [List.getD, this]) hS
  ⟨Below.refl _ _, fun k hk h => by simp [List.getD, hk] at h, fun k b hk h => by simp [List.getD, hk] at h, fun j k b hj hk _ h => by simp [List.getD, hj] at h⟩
 rw [setBits_none, h0] at h
 exact h
end
end Go.Proofs.YthabgljdndbphaaGreatDoor
