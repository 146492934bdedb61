/- The judge's undo: what was decided about the last group is taken back; The judge's fits: a step of kind 'fit'; The judge's kid: a decision is put, a step is looked at, the decision is taken back; The judge's split: a step of kind 'split'. -/
import Derived.Test.YthabgljdndbphaaGreatDoorQPKM27
import Derived.Defers
import Derived.WideLaws

set_option linter.unusedVariables false
set_option linter.unusedSimpArgs false
namespace Go.Proofs.YthabgljdndbphaaGreatDoor
open Go.RowKit Go.IntWalk

theorem set_back (L : List Int) (r : Nat) (x : Int) (hr : r < L.length) : (L.set r x).set r (ix L r) = L := by
 rw [List.set_set]
 unfold ix
 simp [List.getD, hr]

set_option maxRecDepth 10000 in
set_option maxHeartbeats 1600000 in
theorem undo_any (md : FrameMode) (J : JA) (w0 w : World) (R : List Int) (G es : List (Int × Int)) (seen : List Bool) (g : Nat) (run : Int)
  (hj : JOk J w0.heap.size) (hm : JMem w J R G (es ++ [((g : Int), run)]) seen) (hb : Below w0.heap.size w0 w) (hG : Pairs w0 J.ga J.m G) (hv : ValuesOk G) (hR : R.length = J.n) (hRb : ∀ r, r < J.n → 1 ≤ ix R r ∧ ix R r ≤ 4000)
  (hg : g < J.m) (hr : -1 ≤ run ∧ run < J.n) (hes : EsOk J.n J.m es) (hnew : ∀ p ∈ es, p.1 ≠ (g : Int)) (hl : es.length ≤ 100000) :
  CallsD Tryz.prog 77 #[.pointer (some ⟨J.jb, 0, none⟩), .int .i64 g] md w fun e u' w' => u' = md ∧ (e = .returned (.tuple #[]) ∧ JMem w' J R G es seen ∧ JFrame J w w') := by
 have hlk := lookup_run hm.map (g : Int) false
 rw [findI_last hnew] at hlk
 simp only [Option.map_some, Option.getD_some, Bool.false_eq_true, if_false] at hlk
 have HROOM := Lib.hid (roomS_bounds hv hG.1 (fun _ => 4000) es R (fun _ => 1) hes hR hRb)
 have HUSED := Lib.hid (usedS_bounds es (List.replicate J.n 0) (fun _ => 0) hes (by simp) (fun r hr => by simp [ix, List.getD, hr]))
 have HVAL := Lib.hid (valS_bounds hv hG.1 es 0 hes (Int.le_refl _))
 have HG := Lib.hid hG; have HV := Lib.hid hv; have HB := Lib.hid hb; have H1 := Lib.hid hm; have HNEW := Lib.hid hnew
 have b7 := hm.box.cell 7
 have hlt : w0.heap.size ≤ w.heap.size := hb.size
 simp only [JA.cells, List.getElem?_toArray, List.getElem?_cons_zero, List.getElem?_cons_succ] at b7
 clear hG hv hb hm hes hnew hRb
 by_cases hrun : 0 ≤ run
 ·
  obtain ⟨r, rfl⟩ : ∃ r : Nat, run = r := ⟨run.toNat, by omega⟩
  have hr2 : r < J.n := by omega
  have hn0 : 0 < J.n := by omega
  have hroom : 1 - 12 * (es.length : Int) ≤ ix (roomS R G es) r ∧ ix (roomS R G es) r ≤ 4000 := HROOM.out.2 r hr2
  have hused : 0 ≤ ix (usedS J.n es) r ∧ ix (usedS J.n es) r ≤ 0 + es.length := HUSED.out.2 r hr2
  have hval : 0 ≤ valS G es ∧ valS G es ≤ 0 + 12000000 * es.length := HVAL.out
  have HRL : Hid ((roomS R G es).length = J.n) := HROOM.out.1
  have HUL : Hid ((usedS J.n es).length = J.n) := HUSED.out.1
  have hgg := HV.out g (by rw [HG.out.1]; exact hg)
  have HPUSH : Hid (roomS R G (es ++ [((g : Int), (r : Int))]) = (roomS R G es).set r (ix (roomS R G es) r - gs G g) ∧ usedS J.n (es ++ [((g : Int), (r : Int))]) = (usedS J.n es).set r (ix (usedS J.n es) r + 1) ∧ valS G (es ++ [((g : Int), (r : Int))]) = valS G es + gs G g * gv G g) := by
   rw [roomS_push, usedS_push, valS_push]
   unfold roomF usedF valF
   dsimp only
   rw [if_pos (by omega), if_pos (by omega), if_pos (by omega), Int.toNat_natCast, Int.toNat_natCast]
   exact ⟨rfl, rfl, rfl⟩
  have HBR := Lib.hid (set_back (roomS R G es) r (ix (roomS R G es) r - gs G g) (by rw [HRL.out]; exact hr2))
  have HBU := Lib.hid (set_back (usedS J.n es) r (ix (usedS J.n es) r + 1) (by rw [HUL.out]; exact hr2))
  unfold JMem at H1
  rw [HPUSH.out.1, HPUSH.out.2.1, HPUSH.out.2.2] at H1
  obtain ⟨bg, og, hga, c1, c2⟩ := (HG.out.below HB.out).2 g hg
  obtain ⟨hla, hrow⟩ := H1.out.room hn0
  have rr := hrow.cell r (by rw [List.length_set, HRL.out]; exact hr2)
  have rf := hrow.free r
  rw [ix_set _ _ _ _ (by rw [HRL.out]; exact hr2), if_pos rfl] at rr
  obtain ⟨a, ha⟩ : ∃ x, ix (roomS R G es) r = x := ⟨_, rfl⟩
  obtain ⟨u, hu⟩ : ∃ x, ix (usedS J.n es) r = x := ⟨_, rfl⟩
  obtain ⟨v0, hv0⟩ : ∃ x, valS G es = x := ⟨_, rfl⟩
  obtain ⟨s, hs⟩ : ∃ x, gs G g = x := ⟨_, rfl⟩
  obtain ⟨v, hv⟩ : ∃ x, gv G g = x := ⟨_, rfl⟩
  have HV0 := Lib.hid hv0
  rw [ha, hu, hv0, hs, hv] at H1
  rw [ha, hs] at HBR
  rw [hu] at HBU
  rw [hs] at c1 hgg; rw [hv] at c2 hgg
  rw [ha, hs] at rr; rw [ha] at hroom; rw [hu] at hused; rw [hv0] at hval
  have e1 := H1.out.box.cell 1
  have e8 := H1.out.box.cell 8
  simp only [JA.cells, List.getElem?_toArray, List.getElem?_cons_zero, List.getElem?_cons_succ] at e1 e8
  rw [hla] at e8
  rw [hga] at e1
  have HGA := Lib.hid hga
  have h2 := H1.out.setRoom hj hn0 r (by rw [List.length_set, HRL.out]; exact hr2) a
  rw [HBR.out] at h2
  have FR := Lib.hid ((⟨h2, frame_set J.rb r (.int .i64 a) (Or.inr (Or.inr (Or.inl rfl)))⟩ : _ ∧ JFrame J w (w.setCell ⟨J.rb, r, none⟩ (.int .i64 a))))
  have hw : wrap64 (a - s + s) = a := by rw [show a - s + s = a from by omega]; exact wrap64_in _ (by omega)
  have HUU := Lib.hid hu
  have HSS := Lib.hid hs
  have HVV := Lib.hid hv
  have p0 : 0 ≤ s * v := Int.mul_nonneg (by omega) (by omega)
  have p1 : s * v ≤ 12 * v := Int.mul_le_mul_of_nonneg_right hgg.1.2 hgg.2.1
  clear ha hu hv0 hs hv hga hrow hla HROOM HUSED HVAL h2 HPUSH
  go_enter_d Tryz.func77, Tryz.ntmps77
  go_upto_region 2 with fail
  go_cut [29] (fun _ wx => Hid (JGen wx J (v0 + s * v) (es ++ [((g : Int), (r : Int))]) (roomS R G es) ((usedS J.n es).set r (u + 1)) seen) ∧ Hid (JFrame J w wx))
  case first =>
   go_region
   all_goals
    go_wp2_with fail
    go_meet
   all_goals
    case rel => exact ⟨FR.out.1.below ((Below.refl _ _).drew), FR.out.2.trans (JFrame.of_below ((Below.refl _ _).drew))⟩
  case rest =>
   obtain ⟨H2, F2⟩ := hcut
   clear rr rf e1 e8 c1 c2 FR hw hlk b7
   have e9 := H2.out.box.cell 9
   have uu := H2.out.used.cell r (by rw [List.length_set, HUL.out]; exact hr2)
   rw [ix_set _ _ _ _ (by rw [HUL.out]; exact hr2), if_pos rfl] at uu
   have uf := H2.out.used.free r
   simp only [JA.cells, List.getElem?_toArray, List.getElem?_cons_zero, List.getElem?_cons_succ] at e9
   have h3 := H2.out.setUsed hj r (by rw [List.length_set, HUL.out]; exact hr2) u
   rw [HBU.out] at h3
   have F3 := Lib.hid ((⟨h3, F2.out.trans (frame_set J.ub r (.int .i64 u) (Or.inr (Or.inr (Or.inr (Or.inl rfl)))))⟩ : _ ∧ JFrame J w (wc.setCell ⟨J.ub, r, none⟩ (.int .i64 u))))
   have hw : wrap64 (u + 1 - 1) = u := by rw [show u + 1 - 1 = u from by omega]; exact wrap64_in _ (by omega)
   have hw2 : wrap64 (u + 1 + -1) = u := by rw [show u + 1 + -1 = u from by omega]; exact wrap64_in _ (by omega)
   have hw3 : wrap64 u = u := wrap64_in _ (by omega)
   clear H2 F2 h3
   go_upto_region 4 with fail
   generalize (wc.setCell ⟨J.ub, r, none⟩ (.int .i64 u)) = w3 at *
   clear e9 uu uf hw hw2 hw3
   have hb3 : Below w0.heap.size w0 w3 := HB.out.trans (F3.out.2.to_below hj hlt)
   obtain ⟨bg', og', hga, c1, c2⟩ := (HG.out.below hb3).2 g hg
   rw [HGA.out] at hga
   obtain ⟨rfl, rfl⟩ : bg = bg' ∧ og = og' := by simpa using hga
   rw [HSS.out] at c1
   rw [HVV.out] at c2
   have e1 := F3.out.1.box.cell 1
   have e10 := F3.out.1.box.cell 10
   have ef := F3.out.1.box.free 10
   have g1 : ∀ o, (w3.alloc o).cell? ⟨J.jb, 10, none⟩ = some (.int .i64 (v0 + s * v)) := fun o => (F3.out.1.box.alloc o).cell 10
   have g2 : ∀ o, (w3.alloc o).frozen? ⟨J.jb, 10, none⟩ = false := fun o => (F3.out.1.box.alloc o).free 10
   simp only [JA.cells, List.getElem?_toArray, List.getElem?_cons_zero, List.getElem?_cons_succ] at e1 e10
   rw [HGA.out] at e1
   have HW := fun wx => worth_eq s v wx hgg.1 hgg.2
   have h4 := F3.out.1.below ((Below.refl _ _).alloc (Nat.le_refl _) (.cells #[.int .i64 s, .int .i64 v] 49))
   have F4 := Lib.hid ((⟨h4.setVal hj v0, (F3.out.2.trans (JFrame.of_below ((Below.refl _ _).alloc (Nat.le_refl _) _))).trans (frame_set J.jb 10 (.int .i64 v0) (Or.inl rfl))⟩ : _ ∧ JFrame J w ((w3.alloc (.cells #[.int .i64 s, .int .i64 v] 49)).setCell ⟨J.jb, 10, none⟩ (.int .i64 v0))))
   have HW := Lib.hid HW
   have hwr : IntKind.i64.wrap (v0 + s * v - s * v) = v0 := by rw [show v0 + s * v - s * v = v0 from by omega]; exact (i64_left _).trans (wrap64_in _ (by omega))
   have hwr2 : IntKind.i64.wrap v0 = v0 := (i64_left _).trans (wrap64_in _ (by omega))
   clear hga h4
   go_cut [53] (fun _ wx => Hid (JGen wx J v0 (es ++ [((g : Int), (r : Int))]) (roomS R G es) (usedS J.n es) seen) ∧ Hid (JFrame J w wx))
   case first =>
    go_region_with (go_at_call 30; refine (HW.out _).mono ?_; rintro e w4 ⟨rfl, rfl⟩)
    all_goals
     go_wp2_with fail
     go_meet
    all_goals
     case rel => exact ⟨F4.out.1.below ((Below.refl _ _).drew), F4.out.2.trans (JFrame.of_below ((Below.refl _ _).drew))⟩
   case rest =>
    obtain ⟨H5, F5⟩ := hcut
    clear F3 F4 e1 e10 ef g1 g2 c1 c2 hwr hwr2
    obtain ⟨w6, hdel, h6, f6⟩ := JGen.strike H5.out hj HNEW.out
    have b7 := H5.out.box.cell 7
    simp only [JA.cells, List.getElem?_toArray, List.getElem?_cons_zero, List.getElem?_cons_succ] at b7
    have F6 := Lib.hid ((⟨h6, F5.out.trans f6⟩ : _ ∧ JFrame J w w6))
    clear h6 f6 H5 F5
    go_wp2_with fail
    go_end0
    refine ⟨rfl, ?_, F6.out.2⟩
    have h := F6.out.1
    unfold JMem
    rw [HV0.out]
    exact h
 ·
  obtain rfl : run = -1 := by omega
  unfold JMem at H1
  rw [roomS_push, usedS_push, valS_push] at H1
  obtain ⟨w1, hdel, h2, f2⟩ := JGen.strike H1.out hj HNEW.out
  have H2 := Lib.hid h2; have F2 := Lib.hid f2
  clear h2 f2
  go_enter_d Tryz.func77, Tryz.ntmps77
  go_wp2_with fail
  go_end0
  exact ⟨rfl, H2.out, F2.out⟩
end Go.Proofs.YthabgljdndbphaaGreatDoor

namespace Go.Proofs.YthabgljdndbphaaGreatDoor
open Go.RowKit Go.IntWalk

theorem IMap.open_len {w : World} {b : Nat} {es : List (Int × Int)} (h : IMap w b es) : ∃ arr clock, w.heap[b]? = some (.map arr clock) ∧ arr.size = es.length := by
 obtain ⟨arr, clock, h1, h2⟩ := h
 exact ⟨arr, clock, h1, by have := congrArg List.length h2; simpa using this⟩

set_option maxRecDepth 10000 in
set_option maxHeartbeats 3200000 in
theorem jfits_any (J : JA) (w0 w : World) (R : List Int) (G es : List (Int × Int)) (seen : List Bool) (T : List StepT) (t : Nat)
  (hm : JMem w J R G es seen) (hb : Below w0.heap.size w0 w) (hT : Steps w0 J.pa J.k T) (ht : t < J.k) (hG : G.length = J.m) (hv : ValuesOk G) (hR : R.length = J.n) (hes : EsOk J.n J.m es) :
  Calls Tryz.prog 37 #[.pointer (some ⟨J.jb, 0, none⟩), .int .i64 t] w fun e w' => e = .returned (.bool (fitsOk J.single R G es (stepAt T t).group)) ∧ Below w.heap.size w w' := by
 obtain ⟨pb, po, ka, kc, hpa, _, c1, _, _⟩ := (hT.below hb).2 t ht
 have HRL : Hid ((roomS R G es).length = J.n) := (roomS_bounds hv hG (fun r => ix R r) es R (fun r => ix R r) hes hR (fun r hr => ⟨Int.le_refl _, Int.le_refl _⟩)).1
 have HUL : Hid ((usedS J.n es).length = J.n) := (usedS_bounds es (List.replicate J.n 0) (fun _ => 0) hes (by simp) (fun r hr => by simp [ix, List.getD, hr])).1
 have HM := Lib.hid hm
 have e0 := hm.box.cell 0
 have e4 := hm.box.cell 4
 simp only [JA.cells, List.getElem?_toArray, List.getElem?_cons_zero, List.getElem?_cons_succ] at e0 e4
 rw [hpa] at e4
 have HGL := Lib.hid hG
 have HRR := Lib.hid hR
 have HP := Lib.hid hpa
 obtain ⟨q, hq⟩ : ∃ x, (stepAt T t).group = x := ⟨_, rfl⟩
 rw [hq] at c1 ⊢
 clear hm hb hT hv hes hG hR hq hpa
 by_cases hq0 : q < 0
 ·
  have FIN : Hid (fitsOk J.single R G es q = false) := by
   show _ = _
   unfold fitsOk; rw [if_pos (Or.inl hq0)]
  have e1 : decide (q < 0) = true := by simp; omega
  go_enter Tryz.func37, Tryz.ntmps37
  go_wp2_with fail
  go_ret
  exact ⟨by rw [FIN.out]; rfl, Below.refl _ _⟩
 ·
  have e1 : decide (q < 0) = false := by simp; omega
  by_cases hqn : (J.n : Int) ≤ q
  ·
   have FIN : Hid (fitsOk J.single R G es q = false) := by
    show _ = _
    unfold fitsOk; rw [if_pos (Or.inr (by rw [HRR.out]; exact hqn))]
   have e2 : decide ((J.n : Int) ≤ q) = true := by simp; omega
   go_enter Tryz.func37, Tryz.ntmps37
   go_wp2_with fail
   go_ret
   exact ⟨by rw [FIN.out]; rfl, Below.refl _ _⟩
  ·
   obtain ⟨r, rfl⟩ : ∃ r : Nat, q = r := ⟨q.toNat, by omega⟩
   have hr2 : r < J.n := by omega
   have hnr : ¬ J.n ≤ r := by omega
   have hn0 : 0 < J.n := by omega
   have FIN : Hid (fitsOk J.single R G es r = (decide (ix (roomS R G es) r < 0) || (J.single && decide (es.length = J.m) && decide (0 < ix (usedS J.n es) r) && decide (ix (roomS R G es) r = 1)))) := by
    show _ = _
    unfold fitsOk
    rw [if_neg (by rw [HRR.out]; omega), Int.toNat_natCast, HGL.out, HRR.out]
   obtain ⟨hla, hrow⟩ := HM.out.room hn0
   have rr := hrow.cell r (by rw [HRL.out]; exact hr2)
   have uu := HM.out.used.cell r (by rw [HUL.out]; exact hr2)
   have e1' := HM.out.box.cell 1
   have e2' := HM.out.box.cell 2
   have e7 := HM.out.box.cell 7
   have e8 := HM.out.box.cell 8
   have e9 := HM.out.box.cell 9
   simp only [JA.cells, List.getElem?_toArray, List.getElem?_cons_zero, List.getElem?_cons_succ] at e1' e2' e7 e8 e9
   rw [hla] at e8
   obtain ⟨a, ha⟩ : ∃ x, ix (roomS R G es) r = x := ⟨_, rfl⟩
   obtain ⟨u, hu⟩ : ∃ x, ix (usedS J.n es) r = x := ⟨_, rfl⟩
   rw [ha, hu] at FIN
   rw [ha] at rr
   rw [hu] at uu
   clear ha hu hrow hla hqn hq0 e1
   by_cases ha0 : a < 0
   ·
    have e2 : decide (a < 0) = true := by simp; omega
    have FI : Hid (fitsOk J.single R G es r = true) := by rw [FIN.out, e2]; rfl
    go_enter Tryz.func37, Tryz.ntmps37
    go_wp2_with fail
    go_quiet (fail)
    go_wp2
    go_ret
    exact ⟨by rw [FI.out]; rfl, below_drewN (Below.refl _ _) _⟩
   ·
    have e2 : decide (a < 0) = false := by simp; omega
    cases hsg : J.single
    ·
     have FI : Hid (fitsOk false R G es r = false) := by
      have h := FIN.out
      rw [e2, hsg] at h
      exact h
     rw [hsg] at e2'
     clear hsg
     go_enter Tryz.func37, Tryz.ntmps37
     go_wp2_with fail
     go_quiet (fail)
     go_wp2
     go_ret
     exact ⟨by rw [FI.out]; rfl, below_drewN (Below.refl _ _) _⟩
    ·
     have FI0 : Hid (fitsOk true R G es r = (decide (es.length = J.m) && decide (0 < u) && decide (a = 1))) := by
      have h := FIN.out
      rw [e2, hsg] at h
      show _ = _
      simpa using h
     rw [hsg] at e2'
     clear hsg FIN
     obtain ⟨arr, clock, hh, hsz⟩ := HM.out.map.open_len
     rw [← hsz] at FI0
     have hl1 : ∀ T, (Builtin.len_ #[79] T #[.map (some J.mb)]).run Tryz.prog w = .ok (.int .i64 (arr.size : Int)) w := fun T => run_len_map w _ T J.mb arr clock Tryz.underlying79 hh
     have hl2 : ∀ T q, (Builtin.len_ #[79] T #[.map (some J.mb)]).run Tryz.prog (w.drewN q) = .ok (.int .i64 (arr.size : Int)) (w.drewN q) := fun T q => run_len_map (w.drewN q) _ T J.mb arr clock Tryz.underlying79 hh
     clear hsz hh
     by_cases h1 : arr.size = J.m
     ·
      have e3 : ((arr.size : Int) == (J.m : Int)) = true := by simp; omega
      have e3' : (arr.size == J.m) = true := by simp; exact h1
      have FI1 : Hid (fitsOk true R G es r = (decide (0 < u) && decide (a = 1))) := by rw [FI0.out, decide_eq_true h1]; rfl
      clear h1 FI0
      by_cases hu : 0 < u
      ·
       have e4'' : decide (0 < u) = true := by simp; omega
       by_cases ha1 : a = 1
       ·
        have e5 : (a == 1) = true := by simp; exact ha1
        have FI : Hid (fitsOk true R G es r = true) := by rw [FI1.out, e4'', decide_eq_true ha1]; rfl
        clear ha1 hu FI1
        go_enter Tryz.func37, Tryz.ntmps37
        go_wp2_with fail
        go_quiet (fail)
        go_wp2
        go_ret
        exact ⟨by rw [FI.out]; rfl, below_drewN (Below.refl _ _) _⟩
       ·
        have e5 : (a == 1) = false := by simp; exact ha1
        have FI : Hid (fitsOk true R G es r = false) := by rw [FI1.out, e4'', decide_eq_false ha1]; rfl
        clear ha1 hu FI1
        go_enter Tryz.func37, Tryz.ntmps37
        go_wp2_with fail
        go_quiet (fail)
        go_wp2
        go_ret
        exact ⟨by rw [FI.out]; rfl, below_drewN (Below.refl _ _) _⟩
      ·
       have e4'' : decide (0 < u) = false := by simp; omega
       have FI : Hid (fitsOk true R G es r = false) := by rw [FI1.out, e4'']; rfl
       clear hu FI1
       go_enter Tryz.func37, Tryz.ntmps37
       go_wp2_with fail
       go_quiet (fail)
       go_wp2
       go_ret
       exact ⟨by rw [FI.out]; rfl, below_drewN (Below.refl _ _) _⟩
     ·
      have e3 : ((arr.size : Int) == (J.m : Int)) = false := by simp; omega
      have e3' : (arr.size == J.m) = false := by simp; exact h1
      have FI : Hid (fitsOk true R G es r = false) := by rw [FI0.out, decide_eq_false h1]; rfl
      clear h1 FI0
      go_enter Tryz.func37, Tryz.ntmps37
      go_wp2_with fail
      go_quiet (fail)
      go_wp2
      go_ret
      exact ⟨by rw [FI.out]; rfl, below_drewN (Below.refl _ _) _⟩
end Go.Proofs.YthabgljdndbphaaGreatDoor

namespace Go.Proofs.YthabgljdndbphaaGreatDoor
open Go.RowKit Go.IntWalk

set_option maxRecDepth 10000 in
set_option maxHeartbeats 1600000 in
theorem kid_any (J : JA) (w0 w : World) (R : List Int) (G es : List (Int × Int)) (seen : List Bool) (g kk : Nat) (run : Int) (Post : Bool → List Bool → Prop)
  (hj : JOk J w0.heap.size) (hm : JMem w J R G es seen) (hb : Below w0.heap.size w0 w) (hG : Pairs w0 J.ga J.m G) (hv : ValuesOk G) (hR : R.length = J.n) (hRb : ∀ r, r < J.n → 1 ≤ ix R r ∧ ix R r ≤ 4000)
  (hg : g < J.m) (hr : -1 ≤ run ∧ run < J.n) (hes : EsOk J.n J.m es) (hnew : ∀ p ∈ es, p.1 ≠ (g : Int)) (hl : es.length ≤ 100000)
  (hright : ∀ wx, JMem wx J R G (es ++ [((g : Int), run)]) seen → JFrame J w wx → Calls Tryz.prog 38 #[.pointer (some ⟨J.jb, 0, none⟩), .int .i64 kk] wx fun e w' =>
   ∃ q s', e = .returned (.bool q) ∧ Post q s' ∧ JMem w' J R G (es ++ [((g : Int), run)]) s' ∧ JFrame J wx w') :
  Calls Tryz.prog 54 #[.pointer (some ⟨J.jb, 0, none⟩), .int .i64 kk, .int .i64 g, .int .i64 run] w fun e w' => ∃ q s', e = .returned (.bool q) ∧ Post q s' ∧ JMem w' J R G es s' ∧ JFrame J w w' := by
 have HPUT := Lib.hid (put_any J w0 w R G es seen g run hj hm hb hG hv hR hRb hg hr hes hnew hl)
 have HUNDO : Hid (∀ s' wx, JMem wx J R G (es ++ [((g : Int), run)]) s' → JFrame J w wx → _) := fun s' wx hx fx =>
  undo_any .returning J w0 wx R G es s' g run hj hx (hb.trans (fx.to_below hj hb.size)) hG hv hR hRb hg hr hes hnew hl
 have HRT := Lib.hid hright
 clear hj hm hb hG hv hR hRb hg hr hes hnew hl hright
 go_enter_defers Tryz.func54, Tryz.ntmps54
 go_wp2_with (go_at_call 76; refine HPUT.out.mono ?_; rintro e w1 ⟨rfl, h1, f1⟩; have H1 := Lib.hid h1; have F1 := Lib.hid f1; clear h1 f1)
 go_wp2_with (go_at_call 38; refine (HRT.out w1 H1.out F1.out).mono ?_; rintro e w2 ⟨q, s', rfl, hp, h2, f2⟩)
 refine leaves_cons (f := 77) (args := #[.pointer (some ⟨J.jb, 0, none⟩), .int .i64 g]) (by simp) (by simp [go_sem]) ?_
 refine (HUNDO.out s' w2 h2 (F1.out.trans f2)).mono ?_
 rintro e u' w3 ⟨rfl, rfl, h3, f3⟩
 exact ⟨_, results_tmp rfl _ _ _, q, s', rfl, hp, h3, (F1.out.trans f2).trans f3⟩
end Go.Proofs.YthabgljdndbphaaGreatDoor

namespace Go.Proofs.YthabgljdndbphaaGreatDoor
open Go.RowKit Go.IntWalk

/-- The order of the groups in memory. -/
def JOrd (w : World) (J : JA) (G : List (Int × Int)) : Prop := Ints w J.oa J.m (rankedL G)

theorem JFrame.ord {J : JA} {B : Nat} {w w' : World} {G : List (Int × Int)} (h : JFrame J w w') (hj : JOk J B) (ho : JOrd w J G) : JOrd w' J G := by
 refine ⟨ho.1, fun k hk => ?_⟩
 obtain ⟨b, o, e, c⟩ := ho.2 k hk
 have hlt := cell_lt c
 obtain ⟨h1, h2, h3, h4, h5⟩ := hj.ord _ e
 refine ⟨b, o, e, ?_⟩
 rw [World.cell?_of_block (w := w) (a := ⟨b, o + k, none⟩) (h.block b hlt h1 h2 h3 h4 h5)]
 exact c

theorem JMem.lts {w : World} {J : JA} {R : List Int} {G es : List (Int × Int)} {seen : List Bool} (h : JMem w J R G es seen) : J.jb < w.heap.size ∧ J.mb < w.heap.size ∧ J.ub < w.heap.size ∧ J.sb < w.heap.size ∧ J.rb < w.heap.size := by
 obtain ⟨arr, clock, h1, _⟩ := h.map
 exact ⟨lt_of_block h.box, lt_of_block h1, h.used.lt, h.seen.lt, h.rlt⟩

theorem decided_new {es : List (Int × Int)} {x : Int} (h : decidedB es x = false) : ∀ p ∈ es, p.1 ≠ x := by
 have key : ∀ (es : List (Int × Int)) (i : Nat), findI x es i = none → ∀ p ∈ es, p.1 ≠ x := by
  intro es
  induction es with
  | nil => intro _ _ p hp; simp at hp
  | cons q es ih =>
   intro i h p hp
   rw [findI] at h
   split at h
   ·
    simp at h
   ·
    rename_i hq
    rcases List.mem_cons.mp hp with rfl | hp
    ·
     exact hq
    ·
     exact ih _ h p hp
 unfold decidedB at h
 refine key es 0 ?_
 cases hf : findI x es 0 with
 | none => rfl
 | some _ => rw [hf] at h; simp at h

/-- What a call of right leaves. -/
def RightPost (J : JA) (R : List Int) (G es : List (Int × Int)) (out : Bool × List Bool) (w : World) (e : Ending) (w' : World) : Prop :=
 e = .returned (.bool out.1) ∧ out.2.length = J.k ∧ JMem w' J R G es out.2 ∧ JFrame J w w'

theorem kidsL_step (go : List (Int × Int) → List Bool → Nat → Bool × List Bool) (es : List (Int × Int)) (g : Int) (n k nR : Nat) (K : List Int) (r : Nat) (hr : r < K.length) (s : List Bool) :
  kidsL go es g n k nR r (K.drop r) s = if ix K r ≤ n ∨ k ≤ ix K r then (false, s)
   else if (go (es ++ [(g, if r = nR then -1 else (r : Int))]) s (ix K r).toNat).1 then kidsL go es g n k nR (r + 1) (K.drop (r + 1)) (go (es ++ [(g, if r = nR then -1 else (r : Int))]) s (ix K r).toNat).2
   else (false, (go (es ++ [(g, if r = nR then -1 else (r : Int))]) s (ix K r).toNat).2) := by
 rw [drop_ix K r hr]
 rfl

set_option maxRecDepth 10000 in
set_option maxHeartbeats 3200000 in
theorem jsplit_any (go : List (Int × Int) → List Bool → Nat → Bool × List Bool) (J : JA) (w0 w : World) (R : List Int) (G es : List (Int × Int)) (seen : List Bool) (T : List StepT) (t : Nat)
  (hj : JOk J w0.heap.size) (hm : JMem w J R G es seen) (hord : JOrd w J G) (hb : Below w0.heap.size w0 w) (hT : Steps w0 J.pa J.k T) (ht : t < J.k) (hG : Pairs w0 J.ga J.m G) (hv : ValuesOk G) (hR : R.length = J.n) (hRb : ∀ r, r < J.n → 1 ≤ ix R r ∧ ix R r ≤ 4000)
  (hes : EsOk J.n J.m es) (hl : es.length ≤ t) (hsl : seen.length = J.k) (hk : J.k ≤ 100000) (hn : J.n ≤ 4000) (_hmm : J.m ≤ 4000)
  (hgo : ∀ wx es' s' (x : Nat), t < x → x < J.k → es'.length ≤ x → EsOk J.n J.m es' → s'.length = J.k → JMem wx J R G es' s' → JOrd wx J G → Below w0.heap.size w0 wx →
   Calls Tryz.prog 38 #[.pointer (some ⟨J.jb, 0, none⟩), .int .i64 x] wx (RightPost J R G es' (go es' s' x) wx)) :
  Calls Tryz.prog 35 #[.pointer (some ⟨J.jb, 0, none⟩), .int .i64 t] w
   (RightPost J R G es (if (stepAt T t).group < 0 ∨ G.length ≤ (stepAt T t).group ∨ (stepAt T t).kids.length ≠ R.length + 1 ∨ decidedB es (stepAt T t).group = true then (false, seen)
    else kidsL go es (stepAt T t).group t T.length R.length 0 (stepAt T t).kids seen) w) := by
 obtain ⟨pb, po, ka, kc, hpa, c0, c1, c2, hK0⟩ := hT.2 t ht
 have c0 := Below.cell_of hb c0; have c1 := Below.cell_of hb c1; have c2 := Below.cell_of hb c2
 have hTl := hT.1
 obtain ⟨q, hq⟩ : ∃ x, (stepAt T t).group = x := ⟨_, rfl⟩
 obtain ⟨kd, hkd⟩ : ∃ x, (stepAt T t).kind = x := ⟨_, rfl⟩
 obtain ⟨K, hKK⟩ : ∃ x, (stepAt T t).kids = x := ⟨_, rfl⟩
 obtain ⟨kl, hkl⟩ : ∃ x, K.length = x := ⟨_, rfl⟩
 rw [hkd] at c0
 rw [hq] at c1
 rw [hKK, hkl] at c2 hK0
 rw [hq, hKK, hTl, hG.1, hR, hkl]
 generalize hout : (if q < 0 ∨ (J.m : Int) ≤ q ∨ kl ≠ J.n + 1 ∨ decidedB es q = true then (false, seen) else kidsL go es q t J.k J.n 0 K seen) = out
 have HOUT := Lib.hid hout
 clear hout
 have HKL := Lib.hid hkl
 clear hkl
 have e0 := hm.box.cell 0
 have e1 := hm.box.cell 1
 have e4 := hm.box.cell 4
 have e7 := hm.box.cell 7
 simp only [JA.cells, List.getElem?_toArray, List.getElem?_cons_zero, List.getElem?_cons_succ] at e0 e1 e4 e7
 rw [hpa] at e4
 have hlts := hm.lts
 have HA : Hid (∀ o, Below w.heap.size w (w.alloc o)) := fun o => (Below.refl _ _).alloc (Nat.le_refl _) _
 have HM1 := Lib.hid (hm.below (HA.out (.cells #[.int .i64 kd, .int .i64 q, .slice ka kl kc] 71)))
 have HBX : Hid (Box (w.alloc (.cells #[.int .i64 kd, .int .i64 q, .slice ka kl kc] 71)) w.heap.size 71 #[.int .i64 kd, .int .i64 q, .slice ka kl kc]) := Box.new rfl
 have HF1 := Lib.hid (JFrame.of_below (J := J) (HA.out (.cells #[.int .i64 kd, .int .i64 q, .slice ka kl kc] 71)))
 have HO1 : Hid (JOrd (w.alloc (.cells #[.int .i64 kd, .int .i64 q, .slice ka kl kc] 71)) J G) := HF1.out.ord hj hord
 have HB := Lib.hid hb; have HG := Lib.hid hG; have HV := Lib.hid hv; have HK0 := Lib.hid hK0; have HGO := Lib.hid hgo; have HES := Lib.hid hes; have HRB := Lib.hid hRb; have HSL := Lib.hid hsl
 have hlt0 : w0.heap.size ≤ w.heap.size := hb.size
 have hsz : w.heap.size < (w.alloc (.cells #[.int .i64 kd, .int .i64 q, .slice ka kl kc] 71)).heap.size := by simp
 clear hm hord hb hT hG hv hRb hes hgo hK0 hq hkd hKK hpa hTl HA hsl
 go_enter Tryz.func35, Tryz.ntmps35
 go_upto_region 2 with fail
 generalize (w.alloc (.cells #[.int .i64 kd, .int .i64 q, .slice ka kl kc] 71)) = w1 at *
 generalize hsb : w.heap.size = sx at *
 have HSX := Lib.hid hsb
 clear hsb c0 c1 c2 e0 e1 e4 e7
 have s1 := HBX.out.cell 1
 have s2 := HBX.out.cell 2
 have e0 := HM1.out.box.cell 0
 have e1 := HM1.out.box.cell 1
 have e7 := HM1.out.box.cell 7
 simp only [JA.cells, List.getElem?_toArray, List.getElem?_cons_zero, List.getElem?_cons_succ] at s1 s2 e0 e1 e7
 by_cases hq0 : q < 0
 ·
  have t1 : decide (q < 0) = true := by simp; omega
  have FI : Hid (out = (false, seen)) := by
   rw [← HOUT.out, if_pos (Or.inl hq0)]; exact rfl
  go_wp2_with fail
  go_quiet (fail)
  go_wp2
  go_ret
  rw [FI.out]
  exact ⟨rfl, HSL.out, HM1.out.below (below_drewN (Below.refl _ _) _), HF1.out.trans (JFrame.of_below (below_drewN (Below.refl _ _) _))⟩
 ·
  have t1 : decide (q < 0) = false := by simp; omega
  by_cases hqm : (J.m : Int) ≤ q
  ·
   have t2 : decide ((J.m : Int) ≤ q) = true := by simp; omega
   have FI : Hid (out = (false, seen)) := by
    rw [← HOUT.out, if_pos (Or.inr (Or.inl hqm))]; exact rfl
   go_wp2_with fail
   go_quiet (fail)
   go_wp2
   go_ret
   rw [FI.out]
   exact ⟨rfl, HSL.out, HM1.out.below (below_drewN (Below.refl _ _) _), HF1.out.trans (JFrame.of_below (below_drewN (Below.refl _ _) _))⟩
  ·
   obtain ⟨g, rfl⟩ : ∃ g : Nat, q = g := ⟨q.toNat, by omega⟩
   have hgm : g < J.m := by omega
   have hmg : ¬ J.m ≤ g := by omega
   clear hqm hq0
   by_cases hkn : kl = J.n + 1
   ·
    have t3 : ((kl : Int) != (J.n : Int) + 1) = false := by simp; omega
    have HKN := Lib.hid hkn
    clear hkn
    have hlk : (Instr.lookup 79 (.map (some J.mb)) (.int .i64 (g : Int)) true).run Tryz.prog w1 = .ok (.tuple #[.int .i64 (((findI (g : Int) es 0).map Prod.snd).getD 0), .bool (decidedB es g)]) w1 := lookup_run HM1.out.map (g : Int) true
    have hlq : ∀ u, (Instr.lookup 79 (.map (some J.mb)) (.int .i64 (g : Int)) true).run Tryz.prog (w1.drewN u) = .ok (.tuple #[.int .i64 (((findI (g : Int) es 0).map Prod.snd).getD 0), .bool (decidedB es g)]) (w1.drewN u) := fun u => lookup_run (HM1.out.below (below_drewN (Below.refl _ _) u)).map (g : Int) true
    generalize ((findI (g : Int) es 0).map Prod.snd).getD 0 = dv at *
    by_cases hdc : decidedB es g = true
    ·
     rw [hdc] at hlk hlq
     have FI : Hid (out = (false, seen)) := by
      rw [← HOUT.out, if_pos (Or.inr (Or.inr (Or.inr hdc)))]; exact rfl
     clear hdc
     go_wp2_with fail
     go_quiet (fail)
     go_wp2_with fail
     go_quiet (fail)
     go_wp2
     go_ret
     rw [FI.out]
     exact ⟨rfl, HSL.out, HM1.out.below (below_drewN (below_drewN (Below.refl _ _) _) _), HF1.out.trans (JFrame.of_below (below_drewN (below_drewN (Below.refl _ _) _) _))⟩
    ·
     have hdf : decidedB es g = false := by simpa using hdc
     rw [hdf] at hlk hlq
     have HDC := Lib.hid hdf
     have FI : Hid (out = kidsL go es (g : Int) t J.k J.n 0 K seen) := by
      rw [← HOUT.out, if_neg (by
       rintro (h | h | h | h)
       ·
        omega
       ·
        omega
       ·
        exact h HKN.out
       ·
        exact hdc h)]
      exact rfl
     clear hdc hdf
     go_wp2_with fail
     go_quiet (fail)
     go_wp2_with fail
     go_quiet (fail)
     go_upto_region 7 with fail
     generalize hw2 : World.drewN (World.drewN w1 _) _ = w2
     have hb2 : Below w1.heap.size w1 w2 := by rw [← hw2]; exact below_drewN (below_drewN (Below.refl _ _) _) _
     have HM2 := Lib.hid (HM1.out.below hb2)
     have HF2 : Hid (JFrame J w1 w2) := JFrame.of_below hb2
     have HBX2 := Lib.hid (HBX.out.below hb2)
     clear hw2 hb2 s1 s2 e0 e1 e7 hlk hlq t1 t3
     have s2 := HBX2.out.cell 2
     simp only [List.getElem?_toArray, List.getElem?_cons_zero, List.getElem?_cons_succ] at s2
     go_wp2_with fail
     clear s2
     go_loopw [8, 9, 58] (fun _ _ v58 wr => ∃ (r : Nat) (s : List Bool), v58 = .int .i64 r ∧ r ≤ kl ∧ Hid (s.length = J.k) ∧ Hid (JMem wr J R G es s) ∧ Hid (JFrame J w1 wr) ∧
       Hid (Box wr sx 71 #[.int .i64 kd, .int .i64 g, .slice ka kl kc]) ∧ Hid (out = kidsL go es (g : Int) t J.k J.n r (K.drop r) s))
      (fun _ _ v58 _ => kl - (intOf v58).toNat)
     case atStart => exact ⟨0, seen, rfl, Nat.zero_le _, HSL, HM2, HF2, HBX2, FI⟩
     case round =>
      clear HM2 HF2 HBX2 FI
      obtain ⟨r, s, rfl, hr, HSZ, HM, HF, HBX3, HO⟩ := hrel
      have hbr : Below w0.heap.size w0 wr := HB.out.trans ((HF1.out.trans HF.out).to_below hj (by rw [HSX.out]; exact hlt0))
      have HBR := Lib.hid hbr
      by_cases hlt : r < kl
      ·
       obtain ⟨kb, ko, rfl, kc0⟩ := (HK0.out.below hbr).2 r hlt
       have HST := Lib.hid (kidsL_step go es (g : Int) t J.k J.n K r (by rw [HKL.out]; exact hlt) s)
       rw [← HO.out] at HST
       obtain ⟨x, hx⟩ : ∃ x, ix K r = x := ⟨_, rfl⟩
       rw [hx] at kc0 HST
       obtain ⟨rr, hrr⟩ : ∃ x : Int, (if r = J.n then -1 else (r : Int)) = x := ⟨_, rfl⟩
       rw [hrr] at HST
       have hkn2 := HKN.out
       have hrk : r ≤ 4001 := by omega
       have hrb : -1 ≤ rr ∧ rr < J.n := by rw [← hrr]; split <;> omega
       have HRR := Lib.hid hrr
       have g1 := HBX3.out.cell 1
       have e0 := HM.out.box.cell 0
       have e4 := HM.out.box.cell 4
       simp only [JA.cells, List.getElem?_toArray, List.getElem?_cons_zero, List.getElem?_cons_succ] at g1 e0 e4
       clear hx hrr hkn2 hbr HO
       go_upto_region 10 with fail
       by_cases hrn : r = J.n
       ·
        have t5 : ((r : Int) == (J.n : Int)) = true := by simp; omega
        have t5' : (r == J.n) = true := by simp; omega
        have HRE : Hid (rr = -1) := by
         have := HRR.out
         rw [if_pos hrn] at this
         exact this.symm
        clear hrn HRR
        go_upto_region 12 with fail
        by_cases hxt : x ≤ t
        ·
         have e5 : decide (x ≤ (t : Int)) = true := by simp; omega
         have FI : Hid (out = (false, s)) := by
          rw [HST.out, if_pos (Or.inl hxt)]; exact rfl
         go_wp2_with fail
         go_ret
         rw [FI.out]
         exact ⟨rfl, HSZ.out, HM.out, HF1.out.trans HF.out⟩
        ·
         have e5 : decide (x ≤ (t : Int)) = false := by simp; omega
         by_cases hxk : (J.k : Int) ≤ x
         ·
          have e6 : decide ((J.k : Int) ≤ x) = true := by simp; omega
          have FI : Hid (out = (false, s)) := by
           rw [HST.out, if_pos (Or.inr hxk)]; exact rfl
          go_wp2_with fail
          go_ret
          rw [FI.out]
          exact ⟨rfl, HSZ.out, HM.out, HF1.out.trans HF.out⟩
         ·
          have e6 : decide ((J.k : Int) ≤ x) = false := by simp; omega
          obtain ⟨kk, rfl⟩ : ∃ kk : Nat, x = kk := ⟨x.toNat, by omega⟩
          have hkk : ¬ J.k ≤ kk := by omega
          have hkt : ¬ kk ≤ t := by omega
          rw [if_neg (by omega), Int.toNat_natCast] at HST
          have HKID := Lib.hid (kid_any J w0 wr R G es s g kk rr (fun q s' => (q, s') = go (es ++ [((g : Int), rr)]) s kk ∧ s'.length = J.k) hj HM.out HBR.out HG.out HV.out hR HRB.out hgm hrb HES.out (decided_new HDC.out) (by omega)
           (fun wx hmx hfx => (HGO.out wx (es ++ [((g : Int), rr)]) s kk (by omega) (by omega) (by simp; omega) (fun p hp => by
             rcases List.mem_append.mp hp with h | h
             ·
              exact HES.out p h
             ·
              rw [List.mem_singleton.mp h]; dsimp only; omega) HSZ.out hmx (hfx.ord hj (HF.out.ord hj HO1.out))
            (HBR.out.trans (hfx.to_below hj HBR.out.size))).mono (fun e w' h => ⟨_, _, h.1, ⟨rfl, h.2.1⟩, h.2.2.1, h.2.2.2⟩)))
          rw [HRE.out] at HKID HST
          clear hxt hxk e0 kc0
          go_wp2_with (go_at_call 54; refine HKID.out.mono ?_; rintro e w5 ⟨q, s', rfl, ⟨hgo5, hsl5⟩, hm5, hf5⟩)
          ·
           rename_i hq
           have hqf : q = false := by simpa using hq
           have FI : Hid (out = (false, s')) := by
            rw [HST.out, ← hgo5, hqf]; exact rfl
           go_ret
           rw [FI.out]
           exact ⟨rfl, hsl5, hm5, (HF1.out.trans HF.out).trans hf5⟩
          ·
           rename_i hq
           have hqt : q = true := by simpa using hq
           have FI : Hid (out = kidsL go es (g : Int) t J.k J.n (r + 1) (K.drop (r + 1)) s') := by
            rw [HST.out, ← hgo5, hqt]; exact rfl
           have hsx := HBX3.out.of_heap (hf5.block sx (lt_of_block HBX3.out) (by omega) (by omega) (by omega) (by omega) (by omega))
           exact ⟨⟨r + 1, s', by go_num, by omega, hsl5, hm5, HF.out.trans hf5, hsx, FI⟩, by simp [intOf]; omega⟩
       ·
        have t5 : ((r : Int) == (J.n : Int)) = false := by simp; omega
        have t5' : (r == J.n) = false := by simp; omega
        have HRE : Hid (rr = (r : Int)) := by
         have := HRR.out
         rw [if_neg hrn] at this
         exact this.symm
        clear hrn HRR
        go_upto_region 12 with fail
        by_cases hxt : x ≤ t
        ·
         have e5 : decide (x ≤ (t : Int)) = true := by simp; omega
         have FI : Hid (out = (false, s)) := by
          rw [HST.out, if_pos (Or.inl hxt)]; exact rfl
         go_wp2_with fail
         go_ret
         rw [FI.out]
         exact ⟨rfl, HSZ.out, HM.out, HF1.out.trans HF.out⟩
        ·
         have e5 : decide (x ≤ (t : Int)) = false := by simp; omega
         by_cases hxk : (J.k : Int) ≤ x
         ·
          have e6 : decide ((J.k : Int) ≤ x) = true := by simp; omega
          have FI : Hid (out = (false, s)) := by
           rw [HST.out, if_pos (Or.inr hxk)]; exact rfl
          go_wp2_with fail
          go_ret
          rw [FI.out]
          exact ⟨rfl, HSZ.out, HM.out, HF1.out.trans HF.out⟩
         ·
          have e6 : decide ((J.k : Int) ≤ x) = false := by simp; omega
          obtain ⟨kk, rfl⟩ : ∃ kk : Nat, x = kk := ⟨x.toNat, by omega⟩
          have hkk : ¬ J.k ≤ kk := by omega
          have hkt : ¬ kk ≤ t := by omega
          rw [if_neg (by omega), Int.toNat_natCast] at HST
          have HKID := Lib.hid (kid_any J w0 wr R G es s g kk rr (fun q s' => (q, s') = go (es ++ [((g : Int), rr)]) s kk ∧ s'.length = J.k) hj HM.out HBR.out HG.out HV.out hR HRB.out hgm hrb HES.out (decided_new HDC.out) (by omega)
           (fun wx hmx hfx => (HGO.out wx (es ++ [((g : Int), rr)]) s kk (by omega) (by omega) (by simp; omega) (fun p hp => by
             rcases List.mem_append.mp hp with h | h
             ·
              exact HES.out p h
             ·
              rw [List.mem_singleton.mp h]; dsimp only; omega) HSZ.out hmx (hfx.ord hj (HF.out.ord hj HO1.out))
            (HBR.out.trans (hfx.to_below hj HBR.out.size))).mono (fun e w' h => ⟨_, _, h.1, ⟨rfl, h.2.1⟩, h.2.2.1, h.2.2.2⟩)))
          rw [HRE.out] at HKID HST
          clear hxt hxk e0 kc0
          go_wp2_with (go_at_call 54; refine HKID.out.mono ?_; rintro e w5 ⟨q, s', rfl, ⟨hgo5, hsl5⟩, hm5, hf5⟩)
          ·
           rename_i hq
           have hqf : q = false := by simpa using hq
           have FI : Hid (out = (false, s')) := by
            rw [HST.out, ← hgo5, hqf]; exact rfl
           go_ret
           rw [FI.out]
           exact ⟨rfl, hsl5, hm5, (HF1.out.trans HF.out).trans hf5⟩
          ·
           rename_i hq
           have hqt : q = true := by simpa using hq
           have FI : Hid (out = kidsL go es (g : Int) t J.k J.n (r + 1) (K.drop (r + 1)) s') := by
            rw [HST.out, ← hgo5, hqt]; exact rfl
           have hsx := HBX3.out.of_heap (hf5.block sx (lt_of_block HBX3.out) (by omega) (by omega) (by omega) (by omega) (by omega))
           exact ⟨⟨r + 1, s', by go_num, by omega, hsl5, hm5, HF.out.trans hf5, hsx, FI⟩, by simp [intOf]; omega⟩
      ·
       have FI : Hid (out = (true, s)) := by
        rw [HO.out, List.drop_of_length_le (by rw [HKL.out]; omega)]; exact rfl
       go_wp2_with fail
       go_ret
       rw [FI.out]
       exact ⟨rfl, HSZ.out, HM.out, HF1.out.trans HF.out⟩
   ·
    have t3 : ((kl : Int) != (J.n : Int) + 1) = true := by simp; omega
    have FI : Hid (out = (false, seen)) := by
     rw [← HOUT.out, if_pos (Or.inr (Or.inr (Or.inl hkn)))]; exact rfl
    go_wp2_with fail
    go_quiet (fail)
    go_wp2
    go_ret
    rw [FI.out]
    exact ⟨rfl, HSL.out, HM1.out.below (below_drewN (Below.refl _ _) _), HF1.out.trans (JFrame.of_below (below_drewN (Below.refl _ _) _))⟩
end Go.Proofs.YthabgljdndbphaaGreatDoor
