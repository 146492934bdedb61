/- The judge's undo: what was decided about the last group is taken back. -/
import Derived.Test.YtaomlhhlefpdeaaQFitBound40
import Derived.Defers

namespace Go.Proofs.Ytaomlhhlefpdeaa
open Go.RowKit Go.IntWalk

theorem set_back (L : List Int) (r : Nat) (x : Int) (hr : r < L.length) : (L.set r x).set r (ix L r) = L := by
  rw [List.set_set]
  unfold ix
  simp [List.getD, hr]

set_option maxRecDepth 10000 in
set_option maxHeartbeats 1600000 in
theorem undo_any (md : FrameMode) (J : JA) (w0 w : World) (R : List Int) (G es : List (Int × Int)) (seen : List Bool) (g : Nat) (run : Int)
    (hj : JOk J w0.heap.size) (hm : JMem w J R G (es ++ [((g : Int), run)]) seen) (hb : Below w0.heap.size w0 w) (hG : Pairs w0 J.ga J.m G) (hv : ValuesOk G) (hR : R.length = J.n) (hRb : ∀ r, r < J.n → 1 ≤ ix R r ∧ ix R r ≤ 4000)
    (hg : g < J.m) (hr : -1 ≤ run ∧ run < J.n) (hes : EsOk J.n J.m es) (hnew : ∀ p ∈ es, p.1 ≠ (g : Int)) (hl : es.length ≤ 100000) :
    CallsD Try.prog 88 #[.pointer (some ⟨J.jb, 0, none⟩), .int .i64 g] md w fun e u' w' => u' = md ∧ (e = .returned (.tuple #[]) ∧ JMem w' J R G es seen ∧ JFrame J w w') := by
  have hlk := lookup_run hm.map (g : Int) false
  rw [findI_last hnew] at hlk
  simp only [Option.map_some, Option.getD_some, Bool.false_eq_true, if_false] at hlk
  have HROOM := Lib.hid (roomS_bounds hv hG.1 (fun _ => 4000) es R (fun _ => 1) hes hR hRb)
  have HUSED := Lib.hid (usedS_bounds es (List.replicate J.n 0) (fun _ => 0) hes (by simp) (fun r hr => by simp [ix, List.getD, hr]))
  have HVAL := Lib.hid (valS_bounds hv hG.1 es 0 hes (Int.le_refl _))
  have HG := Lib.hid hG; have HV := Lib.hid hv; have HB := Lib.hid hb; have H1 := Lib.hid hm; have HNEW := Lib.hid hnew
  have b7 := hm.box.cell 7
  have hlt : w0.heap.size ≤ w.heap.size := hb.size
  simp only [JA.cells, List.getElem?_toArray, List.getElem?_cons_zero, List.getElem?_cons_succ] at b7
  clear hG hv hb hm hes hnew hRb
  by_cases hrun : 0 ≤ run
  · obtain ⟨r, rfl⟩ : ∃ r : Nat, run = r := ⟨run.toNat, by omega⟩
    have hr2 : r < J.n := by omega
    have hn0 : 0 < J.n := by omega
    have hroom : 1 - 12 * (es.length : Int) ≤ ix (roomS R G es) r ∧ ix (roomS R G es) r ≤ 4000 := HROOM.out.2 r hr2
    have hused : 0 ≤ ix (usedS J.n es) r ∧ ix (usedS J.n es) r ≤ 0 + es.length := HUSED.out.2 r hr2
    have hval : 0 ≤ valS G es ∧ valS G es ≤ 0 + 12000000 * es.length := HVAL.out
    have HRL : Hid ((roomS R G es).length = J.n) := HROOM.out.1
    have HUL : Hid ((usedS J.n es).length = J.n) := HUSED.out.1
    have hgg := HV.out g (by rw [HG.out.1]; exact hg)
    have HPUSH : Hid (roomS R G (es ++ [((g : Int), (r : Int))]) = (roomS R G es).set r (ix (roomS R G es) r - gs G g) ∧ usedS J.n (es ++ [((g : Int), (r : Int))]) = (usedS J.n es).set r (ix (usedS J.n es) r + 1) ∧ valS G (es ++ [((g : Int), (r : Int))]) = valS G es + gs G g * gv G g) := by
      rw [roomS_push, usedS_push, valS_push]
      unfold roomF usedF valF
      dsimp only
      rw [if_pos (by omega), if_pos (by omega), if_pos (by omega), Int.toNat_natCast, Int.toNat_natCast]
      exact ⟨rfl, rfl, rfl⟩
    have HBR := Lib.hid (set_back (roomS R G es) r (ix (roomS R G es) r - gs G g) (by rw [HRL.out]; exact hr2))
    have HBU := Lib.hid (set_back (usedS J.n es) r (ix (usedS J.n es) r + 1) (by rw [HUL.out]; exact hr2))
    unfold JMem at H1
    rw [HPUSH.out.1, HPUSH.out.2.1, HPUSH.out.2.2] at H1
    obtain ⟨bg, og, hga, c1, c2⟩ := (HG.out.below HB.out).2 g hg
    obtain ⟨hla, hrow⟩ := H1.out.room hn0
    have rr := hrow.cell r (by rw [List.length_set, HRL.out]; exact hr2)
    have rf := hrow.free r
    rw [ix_set _ _ _ _ (by rw [HRL.out]; exact hr2), if_pos rfl] at rr
    obtain ⟨a, ha⟩ : ∃ x, ix (roomS R G es) r = x := ⟨_, rfl⟩
    obtain ⟨u, hu⟩ : ∃ x, ix (usedS J.n es) r = x := ⟨_, rfl⟩
    obtain ⟨v0, hv0⟩ : ∃ x, valS G es = x := ⟨_, rfl⟩
    obtain ⟨s, hs⟩ : ∃ x, gs G g = x := ⟨_, rfl⟩
    obtain ⟨v, hv⟩ : ∃ x, gv G g = x := ⟨_, rfl⟩
    have HV0 := Lib.hid hv0
    rw [ha, hu, hv0, hs, hv] at H1
    rw [ha, hs] at HBR
    rw [hu] at HBU
    rw [hs] at c1 hgg; rw [hv] at c2 hgg
    rw [ha, hs] at rr; rw [ha] at hroom; rw [hu] at hused; rw [hv0] at hval
    have e1 := H1.out.box.cell 1
    have e8 := H1.out.box.cell 8
    simp only [JA.cells, List.getElem?_toArray, List.getElem?_cons_zero, List.getElem?_cons_succ] at e1 e8
    rw [hla] at e8
    rw [hga] at e1
    have HGA := Lib.hid hga
    have h2 := H1.out.setRoom hj hn0 r (by rw [List.length_set, HRL.out]; exact hr2) a
    rw [HBR.out] at h2
    have FR := Lib.hid ((⟨h2, frame_set J.rb r (.int .i64 a) (Or.inr (Or.inr (Or.inl rfl)))⟩ : _ ∧ JFrame J w (w.setCell ⟨J.rb, r, none⟩ (.int .i64 a))))
    have hw : wrap64 (a - s + s) = a := by rw [show a - s + s = a from by omega]; exact wrap64_in _ (by omega)
    have HUU := Lib.hid hu
    have HSS := Lib.hid hs
    have HVV := Lib.hid hv
    have p0 : 0 ≤ s * v := Int.mul_nonneg (by omega) (by omega)
    have p1 : s * v ≤ 12 * v := Int.mul_le_mul_of_nonneg_right hgg.1.2 hgg.2.1
    clear ha hu hv0 hs hv hga hrow hla HROOM HUSED HVAL h2 HPUSH
    go_enter_d Try.func88, Try.ntmps88
    go_upto_region 2 with fail
    go_cut [29] (fun _ wx => Hid (JGen wx J (v0 + s * v) (es ++ [((g : Int), (r : Int))]) (roomS R G es) ((usedS J.n es).set r (u + 1)) seen) ∧ Hid (JFrame J w wx))
    case first =>
      go_region
      all_goals
        go_wp2_with fail
        go_meet
      all_goals
        case rel => exact ⟨FR.out.1.below ((Below.refl _ _).drew), FR.out.2.trans (JFrame.of_below ((Below.refl _ _).drew))⟩
    case rest =>
      obtain ⟨H2, F2⟩ := hcut
      clear rr rf e1 e8 c1 c2 FR hw hlk b7
      have e9 := H2.out.box.cell 9
      have uu := H2.out.used.cell r (by rw [List.length_set, HUL.out]; exact hr2)
      rw [ix_set _ _ _ _ (by rw [HUL.out]; exact hr2), if_pos rfl] at uu
      have uf := H2.out.used.free r
      simp only [JA.cells, List.getElem?_toArray, List.getElem?_cons_zero, List.getElem?_cons_succ] at e9
      have h3 := H2.out.setUsed hj r (by rw [List.length_set, HUL.out]; exact hr2) u
      rw [HBU.out] at h3
      have F3 := Lib.hid ((⟨h3, F2.out.trans (frame_set J.ub r (.int .i64 u) (Or.inr (Or.inr (Or.inr (Or.inl rfl)))))⟩ : _ ∧ JFrame J w (wc.setCell ⟨J.ub, r, none⟩ (.int .i64 u))))
      have hw : wrap64 (u + 1 - 1) = u := by rw [show u + 1 - 1 = u from by omega]; exact wrap64_in _ (by omega)
      have hw2 : wrap64 (u + 1 + -1) = u := by rw [show u + 1 + -1 = u from by omega]; exact wrap64_in _ (by omega)
      have hw3 : wrap64 u = u := wrap64_in _ (by omega)
      clear H2 F2 h3
      go_upto_region 4 with fail
      generalize (wc.setCell ⟨J.ub, r, none⟩ (.int .i64 u)) = w3 at *
      clear e9 uu uf hw hw2 hw3
      have hb3 : Below w0.heap.size w0 w3 := HB.out.trans (F3.out.2.to_below hj hlt)
      obtain ⟨bg', og', hga, c1, c2⟩ := (HG.out.below hb3).2 g hg
      rw [HGA.out] at hga
      obtain ⟨rfl, rfl⟩ : bg = bg' ∧ og = og' := by simpa using hga
      rw [HSS.out] at c1
      rw [HVV.out] at c2
      have e1 := F3.out.1.box.cell 1
      have e10 := F3.out.1.box.cell 10
      have ef := F3.out.1.box.free 10
      have g1 : ∀ o, (w3.alloc o).cell? ⟨J.jb, 10, none⟩ = some (.int .i64 (v0 + s * v)) := fun o => (F3.out.1.box.alloc o).cell 10
      have g2 : ∀ o, (w3.alloc o).frozen? ⟨J.jb, 10, none⟩ = false := fun o => (F3.out.1.box.alloc o).free 10
      simp only [JA.cells, List.getElem?_toArray, List.getElem?_cons_zero, List.getElem?_cons_succ] at e1 e10
      rw [HGA.out] at e1
      have HW := fun wx => worth_eq s v wx hgg.1 hgg.2
      have h4 := F3.out.1.below ((Below.refl _ _).alloc (Nat.le_refl _) (.cells #[.int .i64 s, .int .i64 v] 37))
      have F4 := Lib.hid ((⟨h4.setVal hj v0, (F3.out.2.trans (JFrame.of_below ((Below.refl _ _).alloc (Nat.le_refl _) _))).trans (frame_set J.jb 10 (.int .i64 v0) (Or.inl rfl))⟩ : _ ∧ JFrame J w ((w3.alloc (.cells #[.int .i64 s, .int .i64 v] 37)).setCell ⟨J.jb, 10, none⟩ (.int .i64 v0))))
      have HW := Lib.hid HW
      have hwr : IntKind.i64.wrap (v0 + s * v - s * v) = v0 := by rw [show v0 + s * v - s * v = v0 from by omega]; exact (i64_left _).trans (wrap64_in _ (by omega))
      have hwr2 : IntKind.i64.wrap v0 = v0 := (i64_left _).trans (wrap64_in _ (by omega))
      clear hga h4
      go_cut [53] (fun _ wx => Hid (JGen wx J v0 (es ++ [((g : Int), (r : Int))]) (roomS R G es) (usedS J.n es) seen) ∧ Hid (JFrame J w wx))
      case first =>
        go_region_with (go_at_call 43; refine (HW.out _).mono ?_; rintro e w4 ⟨rfl, rfl⟩)
        all_goals
          go_wp2_with fail
          go_meet
        all_goals
          case rel => exact ⟨F4.out.1.below ((Below.refl _ _).drew), F4.out.2.trans (JFrame.of_below ((Below.refl _ _).drew))⟩
      case rest =>
        obtain ⟨H5, F5⟩ := hcut
        clear F3 F4 e1 e10 ef g1 g2 c1 c2 hwr hwr2
        obtain ⟨w6, hdel, h6, f6⟩ := JGen.strike H5.out hj HNEW.out
        have b7 := H5.out.box.cell 7
        simp only [JA.cells, List.getElem?_toArray, List.getElem?_cons_zero, List.getElem?_cons_succ] at b7
        have F6 := Lib.hid ((⟨h6, F5.out.trans f6⟩ : _ ∧ JFrame J w w6))
        clear h6 f6 H5 F5
        go_wp2_with fail
        go_end0
        refine ⟨rfl, ?_, F6.out.2⟩
        have h := F6.out.1
        unfold JMem
        rw [HV0.out]
        exact h
  · obtain rfl : run = -1 := by omega
    unfold JMem at H1
    rw [roomS_push, usedS_push, valS_push] at H1
    obtain ⟨w1, hdel, h2, f2⟩ := JGen.strike H1.out hj HNEW.out
    have H2 := Lib.hid h2; have F2 := Lib.hid f2
    clear h2 f2
    go_enter_d Try.func88, Try.ntmps88
    go_wp2_with fail
    go_end0
    exact ⟨rfl, H2.out, F2.out⟩
end Go.Proofs.Ytaomlhhlefpdeaa
