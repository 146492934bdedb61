/- foyerref24.Solve. -/
import Derived.Test.YtaomlhhlefpdeaaQFitBound37

namespace Go.Proofs.Ytaomlhhlefpdeaa
open Go.RowKit

set_option maxRecDepth 10000 in
set_option maxHeartbeats 800000 in
theorem refsolve_bad (ra ga : Option Addr) (n c m d : Nat) (single : Bool) (R : List Int) (G : List (Int × Int)) (w : World)
    (hn : n ≤ 4000) (hm : m ≤ 4000) (hR : Ints w ra n R) (hG : Pairs w ga m G) (hv : validS R G = false) :
    Calls Try.prog 18 #[.agg #[.slice ra n c, .slice ga m d, .bool single]] w fun e w' => e = .returned (.tuple #[.agg #[.slice none 0 0, .int .i64 0], .int .i64 0, .int .i64 1]) ∧ Below w.heap.size w w' := by
  have HR := Lib.hid hR; have HG := Lib.hid hG; have HV := Lib.hid hv
  clear hR hG hv
  go_enter Try.func18, Try.ntmps18
  go_wp2_with fail
  have hb0 : Below w.heap.size w ((w.alloc (.cells #[.slice ra n c, .slice ga m d, .bool single] 25)).alloc (.cells #[.slice none 0 0, .int .i64 0] 30)) := ((Below.refl _ _).alloc (Nat.le_refl _) _).alloc (by simp) _
  refine (refvalid_any ra ga n c m d single false R G _ hn hm (HR.out.below hb0) (HG.out.below hb0) HV.out).mono ?_
  rintro e w1 ⟨rfl, hb1⟩
  have hbx : Box w1 (w.heap.size + 1) 30 #[.slice none 0 0, .int .i64 0] := (Box.new (by simp)).below hb1
  have hb := hb0.trans (hb1.mono (by simp; omega))
  have HRB := Lib.hid ((hbx.set 0 (.slice none 0 0)).set 1 (.int .i64 0))
  have q0 := hbx.cell 0
  have q1 := hbx.cell 1
  have qf := hbx.free 0
  have qg := hbx.free 1
  have r0 := HRB.out.cell 0
  have r1 := HRB.out.cell 1
  simp only [List.getElem?_toArray, List.getElem?_cons_zero, List.getElem?_cons_succ] at q0 q1
  clear hbx hb0 hb1
  go_wp2
  refine bodyPost_ret (v := .tuple #[.agg #[.slice none 0 0, .int .i64 0], .int .i64 0, .int .i64 1]) (by simp [results, Try.results18, go_sem, r0, r1]) rfl ⟨rfl, (hb.setCell (by simp) _).setCell (by simp) _⟩

set_option maxRecDepth 10000 in
set_option maxHeartbeats 1600000 in
theorem refsolve_good (ra ga : Option Addr) (n c m d : Nat) (single : Bool) (R : List Int) (G : List (Int × Int)) (w : World)
    (hn : n ≤ 4000) (hm : m ≤ 4000) (hR : Ints w ra n R) (hG : Pairs w ga m G) (hc : ra = none → c = 0) (hv : validS R G = true) :
    Calls Try.prog 18 #[.agg #[.slice ra n c, .slice ga m d, .bool single]] w fun e w' => ∃ sa c', e = .returned (.tuple #[.agg #[.slice sa m c', .int .i64 (solveS single R G).value], .int .i64 (boundS R G), .int .i64 0]) ∧ Below w.heap.size w w' ∧
      Pairs w' sa m (solveS single R G).spots := by
  have hvp := validS_parts hv
  have hrr := (runsOk_sum R 4000 (by omega) hvp.1).2.2
  have HVP := Lib.hid hvp; have HRR := Lib.hid hrr
  have HR := Lib.hid hR; have HG := Lib.hid hG; have HV := Lib.hid hv; have HC := Lib.hid hc
  clear hR hG hv hvp hrr hc
  go_enter Try.func18, Try.ntmps18
  go_wp2_with fail
  have hb0 : Below w.heap.size w ((w.alloc (.cells #[.slice ra n c, .slice ga m d, .bool single] 25)).alloc (.cells #[.slice none 0 0, .int .i64 0] 30)) := ((Below.refl _ _).alloc (Nat.le_refl _) _).alloc (by simp) _
  refine (refvalid_any ra ga n c m d single true R G _ hn hm (HR.out.below hb0) (HG.out.below hb0) HV.out).mono ?_
  rintro e w1 ⟨rfl, hb1⟩
  have HBX : Hid (Box w1 w.heap.size 25 #[.slice ra n c, .slice ga m d, .bool single] ∧ Box w1 (w.heap.size + 1) 30 #[.slice none 0 0, .int .i64 0]) := ⟨((Box.new rfl).alloc _).below hb1, (Box.new (by simp)).below hb1⟩
  have hb := hb0.trans (hb1.mono (by simp; omega))
  have HSZ : Hid (w.heap.size + 2 ≤ w1.heap.size) := by have := hb1.size; simpa [Hid] using this
  clear hb0 hb1
  have x0 := HBX.out.1.cell 0
  have x1 := HBX.out.1.cell 1
  have x2 := HBX.out.1.cell 2
  simp only [List.getElem?_toArray, List.getElem?_cons_zero, List.getElem?_cons_succ] at x0 x1 x2
  obtain ⟨i0, hi, hz0, hz1, hz2⟩ := info_parts Try_infoInt
  go_wp2
  go_loopw [5, 6] (fun v5 v6 wr => ∃ k : Nat, v6 = .int .i64 k ∧ k ≤ m ∧ wr.ownsRow w1.heap.size 3 1 v5 k ((idx k).map (Value.int .i64)) ∧ Below w1.heap.size w1 wr)
    (fun _ v6 _ => m - (intOf v6).toNat)
  case atStart => exact ⟨0, rfl, Nat.zero_le _, World.ownsRow_nil _ _ _ _, Below.refl _ _⟩
  case round =>
    obtain ⟨k, rfl, hkm, hown, hbr⟩ := hrel
    have y1 := Below.cell_of hbr x1
    by_cases hlt : k < m
    · go_wp2_with (at_builtin; refine wpList_append_own _ rfl _ _ 22 rfl w1.heap.size 3 i0 (.int .i64 0) 1 8 Try.underlying22 hi hz0 hz1 hz2 rfl (by decide) _ _ _ rfl (hown.alloc _) ⟨wr.heap.size, 0, none⟩ 1 1 [.int .i64 (k : Int)] rfl rfl ?c1 ?c2 ?c3 ?c4 ?c5 ?_)
      case c1 =>
        intro j u hj
        match j, hj with
        | 0, hj => simp at hj; subst hj; simp [Addr.add]
      case c2 => intro u hu; simp at hu; subst hu; rfl
      case c3 => unfold maxLen; omega
      case c4 => omega
      case c5 => have := hbr.size; simp; omega
      intro v' w2 hown' hgrow _
      have hb1 : Below w1.heap.size w1 w2 := (hbr.alloc hbr.size _).grown hgrow (by have := hbr.size; simp; omega) (fun q hq => (hown.lt q hq).1)
      have hown2 : w2.ownsRow w1.heap.size 3 1 v' (k + 1) ((idx (k + 1)).map (Value.int .i64)) := by rw [idx_succ, List.map_append]; exact hown'
      clear hown hown' hgrow hbr y1
      go_wp2
      go_roundw
      case rel => exact ⟨k + 1, by go_num, by omega, hown2, hb1⟩
      case measure => simp [intOf]; omega
    · obtain rfl : m = k := by omega
      obtain ⟨oa, oc, rfl, hoc, ho⟩ := OwnInts.of_row' hown
      have HOI : Hid (Ints wr oa m (idx G.length)) := by rw [HG.out.1]; exact ho.ints
      have HMI : Hid (∀ x ∈ idx G.length, 0 ≤ x ∧ x < (m : Int)) := fun x hx => by have := (mem_idx _ x).1 hx; rw [HG.out.1] at this; exact this
      have HNDI : Hid ((idx G.length).Nodup) := List.Pairwise.imp (fun h => by omega) (idx_lt G.length)
      have y0 := Below.cell_of hbr x0
      have y2 := Below.cell_of hbr x2
      have HBXR : Hid (Box wr w.heap.size 25 #[.slice ra n c, .slice ga m d, .bool single] ∧ Box wr (w.heap.size + 1) 30 #[.slice none 0 0, .int .i64 0]) := ⟨HBX.out.1.below hbr, HBX.out.2.below hbr⟩
      clear hown ho
      go_wp2_with fail
      refine (refseat_any ra ga oa n c m d m oc single R (idx G.length) G wr hn hm hm (HR.out.below (hb.trans (hbr.mono hb.size))) (HG.out.below (hb.trans (hbr.mono hb.size))) HOI.out HVP.out.2.2 (fun k hk => HRR.out k (by rw [HR.out.1]; exact hk)) HMI.out HNDI.out).mono ?_
      rintro e w3 ⟨sa, sc, rfl, hb3, hS, hF⟩
      have hbx3 : Box w3 w.heap.size 25 #[.slice ra n c, .slice ga m d, .bool single] ∧ Box w3 (w.heap.size + 1) 30 #[.slice none 0 0, .int .i64 0] := ⟨HBXR.out.1.below hb3, HBXR.out.2.below hb3⟩
      have HX : Hid (w.heap.size + 2 ≤ w3.heap.size ∧ Box (w3.alloc (.cells #[.slice sa m sc, .int .i64 (seatS single R G (idx G.length)).value] 30)) w3.heap.size 30 #[.slice sa m sc, .int .i64 (seatS single R G (idx G.length)).value] ∧
          Pairs (w3.alloc (.cells #[.slice sa m sc, .int .i64 (seatS single R G (idx G.length)).value] 30)) sa m (seatS single R G (idx G.length)).spots ∧ Below w1.heap.size w1 (w3.alloc (.cells #[.slice sa m sc, .int .i64 (seatS single R G (idx G.length)).value] 30)) ∧ ∀ q, sa = some q → w1.heap.size ≤ q.block) :=
        ⟨Nat.le_trans HSZ.out (Nat.le_trans hbr.size hb3.size), Box.new rfl, hS.below ((Below.refl _ _).alloc (Nat.le_refl _) _), (hbr.trans (hb3.mono hbr.size)).alloc (Nat.le_trans hbr.size hb3.size) _, fun q hq => Nat.le_trans hbr.size (hF q hq)⟩
      have HBX : Hid (Box (w3.alloc (.cells #[.slice sa m sc, .int .i64 (seatS single R G (idx G.length)).value] 30)) w.heap.size 25 #[.slice ra n c, .slice ga m d, .bool single] ∧ Box (w3.alloc (.cells #[.slice sa m sc, .int .i64 (seatS single R G (idx G.length)).value] 30)) (w.heap.size + 1) 30 #[.slice none 0 0, .int .i64 0]) := ⟨hbx3.1.alloc _, hbx3.2.alloc _⟩
      have HOI2 : Hid (Ints (w3.alloc (.cells #[.slice sa m sc, .int .i64 (seatS single R G (idx G.length)).value] 30)) oa m (idx G.length)) := (HOI.out.below hb3).below ((Below.refl _ _).alloc (Nat.le_refl _) _)
      have x0' := HBX.out.1.cell 0
      have x1' := HBX.out.1.cell 1
      have x2' := HBX.out.1.cell 2
      clear hbx3 hb3 hS hF HOI HBXR y0 y1 y2
      generalize hb5 : w3.heap.size = b5 at *
      go_upto_region 9 with fail
      generalize (w3.alloc (.cells #[.slice sa m sc, .int .i64 (seatS single R G (idx G.length)).value] 30)) = wa at *
      clear x0' x1' x2' hb5
      have hbc : Below w.heap.size w wa := hb.trans (HX.out.2.2.2.1.mono hb.size)
      have HBX2 := HBX
      have HSZ2 : Hid (w.heap.size + 2 ≤ wa.heap.size) := Nat.le_trans HSZ.out HX.out.2.2.2.1.size
      clear x0 x1 x2
      have x0 := HBX2.out.1.cell 0
      have x1 := HBX2.out.1.cell 1
      have x2 := HBX2.out.1.cell 2
      simp only [List.getElem?_toArray, List.getElem?_cons_zero, List.getElem?_cons_succ] at x0 x1 x2
      clear hb HBX
      go_upto_region 9 with fail
      have u0 : wa.drew.cell? ⟨w.heap.size, 0, none⟩ = some (.slice ra n c) := x0
      have u1 : wa.drew.cell? ⟨w.heap.size, 1, none⟩ = some (.slice ga m d) := x1
      have u2 : wa.drew.cell? ⟨w.heap.size, 2, none⟩ = some (.bool single) := x2
      have e0 := World.new_ne wa _ x0
      go_cut [8] (fun v6 wx => ∃ (b6 : Nat) (sb : Option Addr) (sd : Nat), v6 = .pointer (some ⟨b6, 0, none⟩) ∧ Hid (wa.heap.size ≤ b6 ∧ Box wx b6 30 #[.slice sb m sd, .int .i64 (seatS single R G (rankedL G)).value] ∧ Pairs wx sb m (seatS single R G (rankedL G)).spots ∧ Below wa.heap.size wa wx ∧
          ∀ q, sb = some q → wa.heap.size ≤ q.block))
      case first =>
        go_region_held3 (fun w' => w'.cell? ⟨w.heap.size, 0, none⟩ = some (.slice ra n c) ∧ w'.cell? ⟨w.heap.size, 1, none⟩ = some (.slice ga m d) ∧ w'.cell? ⟨w.heap.size, 2, none⟩ = some (.bool single)) (go_keep)
          (first
            | (go_at_call 40; refine (sorted_any ga m d G HVP.out.2.2 (m + 1) oa m oc (idx G.length) _ (by omega) hm hoc (by first | exact HOI2.out | exact HOI2.out.below ((Below.refl _ _).drew) | exact HOI2.out.below ((Below.refl _ _).alloc (Nat.le_refl _) _) | exact HOI2.out.below ((Below.refl _ _).alloc (Nat.le_refl _) _).drew) (HG.out.below (by first | exact hbc | exact hbc.drew | exact hbc.alloc hbc.size _ | exact (hbc.alloc hbc.size _).drew | exact hbc.drew.alloc hbc.size _)) (idx_lt G.length) HMI.out).mono ?_; rintro e w2 ⟨oa, oc, O, rfl, _, hb2, hO, hp, ho⟩; have hB2 : Below wa.heap.size wa w2 := (by first | exact ((Below.refl _ _).drew).trans hb2 | exact ((Below.refl _ _).drew.alloc (Nat.le_refl _) _).trans (hb2.mono (by simp))); have y0 : w2.cell? ⟨w.heap.size, 0, none⟩ = some (.slice ra n c) := Below.cell_of hB2 x0; have y1 : w2.cell? ⟨w.heap.size, 1, none⟩ = some (.slice ga m d) := Below.cell_of hB2 x1; have y2 : w2.cell? ⟨w.heap.size, 2, none⟩ = some (.bool single) := Below.cell_of hB2 x2; have e1 := World.new_ne w2 _ y0; try (have kb : Box w2 wa.heap.size 30 #[.slice none 0 0, .int .i64 0] := (Box.new (w := wa.drew) rfl).below hb2; have k0 := kb.cell 0; have k1 := kb.cell 1; have kf := kb.free 0; have kg := kb.free 1; simp only [List.getElem?_toArray, List.getElem?_cons_zero, List.getElem?_cons_succ] at k0 k1))
            | (go_at_call 39; refine (refseat_any ra ga oa n c m d m oc single R O G _ hn hm hm (HR.out.below (by first | exact hbc.trans (hB2.mono hbc.size) | exact (hbc.trans (hB2.mono hbc.size)).alloc (Nat.le_trans hbc.size hB2.size) _)) (HG.out.below (by first | exact hbc.trans (hB2.mono hbc.size) | exact (hbc.trans (hB2.mono hbc.size)).alloc (Nat.le_trans hbc.size hB2.size) _)) (by first | exact hO | exact hO.below ((Below.refl _ _).alloc (Nat.le_refl _) _)) HVP.out.2.2 (fun k hk => HRR.out k (by rw [HR.out.1]; exact hk)) (fun x hx => HMI.out x (hp.mem_iff.1 hx)) (hp.nodup_iff.2 HNDI.out)).mono ?_; rintro e w3 ⟨sa, sc, rfl, hb3, hS, hF⟩; have hB3 : Below wa.heap.size wa w3 := (by first | exact hB2.trans (hb3.mono hB2.size) | exact (hB2.alloc hB2.size _).trans (hb3.mono (by have := hB2.size; simp; omega))); have z0 : w3.cell? ⟨w.heap.size, 0, none⟩ = some (.slice ra n c) := Below.cell_of hB3 x0; have z1 : w3.cell? ⟨w.heap.size, 1, none⟩ = some (.slice ga m d) := Below.cell_of hB3 x1; have z2 : w3.cell? ⟨w.heap.size, 2, none⟩ = some (.bool single) := Below.cell_of hB3 x2; have e2 := World.new_ne w3 _ z0; try (have lb : Box w3 _ 30 #[.slice none 0 0, .int .i64 0] := (by first | exact Box.below kb hb3 | exact (Box.new (w := w2) rfl).below hb3); have l0 := lb.cell 0; have l1 := lb.cell 1; have lf := lb.free 0; have lg := lb.free 1; simp only [List.getElem?_toArray, List.getElem?_cons_zero, List.getElem?_cons_succ] at l0 l1)))
        all_goals
          have hOid : O = rankedL G := Ranked.eq ⟨hp, ho⟩
          subst hOid
          go_wp2_with fail
          go_meet
        all_goals
          case rel =>
            first
              | exact ⟨w3.heap.size, sa, sc, rfl, hB3.size, Box.new rfl, hS.below ((Below.refl _ _).alloc (Nat.le_refl _) _), hB3.alloc hB3.size _, fun q hq => Nat.le_trans hB2.size (hF q hq)⟩
              | exact ⟨w2.heap.size, sa, sc, rfl, hB2.size, (lb.set 0 _).set 1 _, (hS.set_other (fun q hq => by have := hF q hq; simp at this; omega)).set_other (fun q hq => by have := hF q hq; simp at this; omega), (hB3.setCell hB2.size _).setCell hB2.size _, fun q hq => Nat.le_trans hB2.size (by have := hF q hq; simp at this; omega)⟩
              | exact ⟨wa.heap.size, sa, sc, rfl, Nat.le_refl _, (lb.set 0 _).set 1 _, (hS.set_other (fun q hq => by have := hF q hq; have := hb2.size; simp at this; omega)).set_other (fun q hq => by have := hF q hq; have := hb2.size; simp at this; omega), (hB3.setCell (Nat.le_refl _) _).setCell (Nat.le_refl _) _, fun q hq => by have := hF q hq; have := hb2.size; simp at this; omega⟩
      case rest =>
      clear x0 x1 x2 u0 u1 u2 e0
      obtain ⟨b6, sb, sd, rfl, HY⟩ := hcut
      obtain ⟨wd, rfl⟩ : ∃ w', w' = wc := ⟨_, rfl⟩
      have hbd : Below w.heap.size w wd := hbc.trans (HY.out.2.2.2.1.mono hbc.size)
      have HBX3 : Hid (Box wd w.heap.size 25 #[.slice ra n c, .slice ga m d, .bool single] ∧ Box wd (w.heap.size + 1) 30 #[.slice none 0 0, .int .i64 0] ∧ Box wd b5 30 #[.slice sa m sc, .int .i64 (seatS single R G (idx G.length)).value]) :=
        ⟨HBX2.out.1.below HY.out.2.2.2.1, HBX2.out.2.below HY.out.2.2.2.1, HX.out.2.1.below HY.out.2.2.2.1⟩
      have HP5 : Hid (Pairs wd sa m (seatS single R G (idx G.length)).spots) := HX.out.2.2.1.below HY.out.2.2.2.1
      have hb5 : Hid (b5 < b6) := Nat.lt_of_lt_of_le (lt_of_block HX.out.2.1) HY.out.1
      have HSOLVE : Hid (solveS single R G = if (seatS single R G (idx G.length)).value < (seatS single R G (rankedL G)).value then seatS single R G (rankedL G) else seatS single R G (idx G.length)) := rfl
      have k0 := HBX3.out.2.2.cell 0
      have k1 := HBX3.out.2.2.cell 1
      have kf := HBX3.out.2.2.free 0
      have kg := HBX3.out.2.2.free 1
      have l0 := HY.out.2.1.cell 0
      have l1 := HY.out.2.1.cell 1
      simp only [List.getElem?_toArray, List.getElem?_cons_zero, List.getElem?_cons_succ] at k0 k1 l0 l1
      generalize seatS single R G (idx G.length) = s1 at *
      generalize seatS single R G (rankedL G) = s2 at *
      go_upto_if 37 with fail
      go_cut [] (fun wx => ∃ (sx : Option Addr) (sxc : Nat), Hid (Box wx b5 30 #[.slice sx m sxc, .int .i64 (solveS single R G).value] ∧ Pairs wx sx m (solveS single R G).spots ∧ Below w.heap.size w wx ∧
          Box wx w.heap.size 25 #[.slice ra n c, .slice ga m d, .bool single] ∧ Box wx (w.heap.size + 1) 30 #[.slice none 0 0, .int .i64 0] ∧ ∀ q, sx = some q → w.heap.size + 2 ≤ q.block))
      case first =>
        by_cases hlt : s1.value < s2.value
        · have HS2 : Hid (solveS single R G = s2) := by rw [HSOLVE.out, if_pos hlt]; rfl
          go_wp2
          go_meet
          case rel => exact ⟨sb, sd, by rw [HS2.out]; exact ⟨(HBX3.out.2.2.set 0 _).set 1 _, (HY.out.2.2.1.set_other (fun q hq => by have := HY.out.2.2.2.2 q hq; have := lt_of_block HX.out.2.1; omega)).set_other (fun q hq => by have := HY.out.2.2.2.2 q hq; have := lt_of_block HX.out.2.1; omega),
            (hbd.setCell (by have := HX.out.1; simp; omega) _).setCell (by have := HX.out.1; simp; omega) _, HBX3.out.1.of_heap ((heap_set _ (by have := HX.out.1; omega)).trans (heap_set _ (by have := HX.out.1; omega))), HBX3.out.2.1.of_heap ((heap_set _ (by have := HX.out.1; omega)).trans (heap_set _ (by have := HX.out.1; omega))), fun q hq => Nat.le_trans HSZ2.out (HY.out.2.2.2.2 q hq)⟩⟩
        · have HS2 : Hid (solveS single R G = s1) := by rw [HSOLVE.out, if_neg hlt]; rfl
          go_wp2
          go_meet
          case rel => exact ⟨sa, sc, by rw [HS2.out]; exact ⟨HBX3.out.2.2, HP5.out, hbd, HBX3.out.1, HBX3.out.2.1, fun q hq => Nat.le_trans HSZ.out (HX.out.2.2.2.2 q hq)⟩⟩
      case rest =>
      clear k0 k1 kf kg l0 l1
      obtain ⟨sx, sxc, HZ⟩ := hcut
      obtain ⟨we, rfl⟩ : ∃ w', w' = wc := ⟨_, rfl⟩
      have k0 := HZ.out.1.cell 0
      have k1 := HZ.out.1.cell 1
      have x0 := HZ.out.2.2.2.1.cell 0
      have x1 := HZ.out.2.2.2.1.cell 1
      have x2 := HZ.out.2.2.2.1.cell 2
      have r0 := HZ.out.2.2.2.2.1.cell 0
      have r1 := HZ.out.2.2.2.2.1.cell 1
      have rf := HZ.out.2.2.2.2.1.free 0
      have rg := HZ.out.2.2.2.2.1.free 1
      simp only [List.getElem?_toArray, List.getElem?_cons_zero, List.getElem?_cons_succ] at k0 k1 x0 x1 x2 r0 r1
      have hb5n : w.heap.size + 1 < b5 := by have := HX.out.1; omega
      have hb5m : ¬ w.heap.size + 1 = b5 := by omega
      have hb5k : ¬ b5 = w.heap.size + 1 := by omega
      go_upto_region 12 with fail
      go_region_held3 (fun w' => w'.cell? ⟨b5, 0, none⟩ = some (.slice sx m sxc) ∧ w'.cell? ⟨b5, 1, none⟩ = some (.int .i64 (solveS single R G).value) ∧ w'.cell? ⟨w.heap.size, 0, none⟩ = some (.slice ra n c) ∧ w'.cell? ⟨w.heap.size, 1, none⟩ = some (.slice ga m d) ∧ w'.cell? ⟨w.heap.size, 2, none⟩ = some (.bool single)) (go_keep)
        (first
          | (go_at_call 28; refine (refBound_any ra ga n c m d single R G we.drew hn hm (HR.out.below HZ.out.2.2.1.drew) (HG.out.below HZ.out.2.2.1.drew)).mono ?_; rintro e wf ⟨rfl, hbf⟩; have hbf2 : Below we.heap.size we wf := ((Below.refl _ _).drew).trans hbf; have k0 := Below.cell_of hbf2 k0; have k1 := Below.cell_of hbf2 k1; have x0 := Below.cell_of hbf2 x0; have x1 := Below.cell_of hbf2 x1; have x2 := Below.cell_of hbf2 x2; have r0 := Below.cell_of hbf2 r0; have r1 := Below.cell_of hbf2 r1; have rf := (HZ.out.2.2.2.2.1.below hbf2).free 0; have rg := (HZ.out.2.2.2.2.1.below hbf2).free 1))
      have HRB := Lib.hid (((HZ.out.2.2.2.2.1.below hbf2).set 0 (.slice sx m sxc)).set 1 (.int .i64 (solveS single R G).value))
      have s0 := HRB.out.cell 0
      have s1' := HRB.out.cell 1
      have hP : Pairs wf sx m (solveS single R G).spots := HZ.out.2.1.below hbf2
      have HFIN : Hid (∃ sa c', Ending.returned (.tuple #[.agg #[.slice sx m sxc, .int .i64 (solveS single R G).value], .int .i64 (boundS R G), .int .i64 0]) = .returned (.tuple #[.agg #[.slice sa m c', .int .i64 (solveS single R G).value], .int .i64 (boundS R G), .int .i64 0]) ∧
          Below w.heap.size w ((wf.setCell ⟨w.heap.size + 1, 0, none⟩ (.slice sx m sxc)).setCell ⟨w.heap.size + 1, 1, none⟩ (.int .i64 (solveS single R G).value)) ∧ Pairs ((wf.setCell ⟨w.heap.size + 1, 0, none⟩ (.slice sx m sxc)).setCell ⟨w.heap.size + 1, 1, none⟩ (.int .i64 (solveS single R G).value)) sa m (solveS single R G).spots) :=
        ⟨sx, sxc, rfl, ((HZ.out.2.2.1.trans (hbf2.mono HZ.out.2.2.1.size)).setCell (by simp) _).setCell (by simp) _, (hP.set_other (fun q hq => by have := HZ.out.2.2.2.2.2 q hq; omega)).set_other (fun q hq => by have := HZ.out.2.2.2.2.2 q hq; omega)⟩
      clear hP
      go_wp2_with fail
      refine bodyPost_ret (v := .tuple #[.agg #[.slice sx m sxc, .int .i64 (solveS single R G).value], .int .i64 (boundS R G), .int .i64 0]) (by simp [results, Try.results18, go_sem, s0, s1']) rfl HFIN.out
end Go.Proofs.Ytaomlhhlefpdeaa
