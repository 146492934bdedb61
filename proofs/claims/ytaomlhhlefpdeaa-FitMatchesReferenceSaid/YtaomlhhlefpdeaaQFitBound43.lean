/- The judge's fits: a step of kind 'fit'; The judge's kid: a decision is put, a step is looked at, the decision is taken back. -/
import Derived.Test.YtaomlhhlefpdeaaQFitBound41
import Derived.Test.YtaomlhhlefpdeaaQFitBound42
import Derived.WideLaws

namespace Go.Proofs.Ytaomlhhlefpdeaa
open Go.RowKit Go.IntWalk

theorem IMap.open_len {w : World} {b : Nat} {es : List (Int × Int)} (h : IMap w b es) : ∃ arr clock, w.heap[b]? = some (.map arr clock) ∧ arr.size = es.length := by
  obtain ⟨arr, clock, h1, h2⟩ := h
  exact ⟨arr, clock, h1, by have := congrArg List.length h2; simpa using this⟩

set_option maxRecDepth 10000 in
set_option maxHeartbeats 3200000 in
theorem jfits_any (J : JA) (w0 w : World) (R : List Int) (G es : List (Int × Int)) (seen : List Bool) (T : List StepT) (t : Nat)
    (hm : JMem w J R G es seen) (hb : Below w0.heap.size w0 w) (hT : Steps w0 J.pa J.k T) (ht : t < J.k) (hG : G.length = J.m) (hv : ValuesOk G) (hR : R.length = J.n) (hes : EsOk J.n J.m es) :
    Calls Try.prog 57 #[.pointer (some ⟨J.jb, 0, none⟩), .int .i64 t] w fun e w' => e = .returned (.bool (fitsOk J.single R G es (stepAt T t).group)) ∧ Below w.heap.size w w' := by
  obtain ⟨pb, po, ka, kc, hpa, _, c1, _, _⟩ := (hT.below hb).2 t ht
  have HRL : Hid ((roomS R G es).length = J.n) := (roomS_bounds hv hG (fun r => ix R r) es R (fun r => ix R r) hes hR (fun r hr => ⟨Int.le_refl _, Int.le_refl _⟩)).1
  have HUL : Hid ((usedS J.n es).length = J.n) := (usedS_bounds es (List.replicate J.n 0) (fun _ => 0) hes (by simp) (fun r hr => by simp [ix, List.getD, hr])).1
  have HM := Lib.hid hm
  have e0 := hm.box.cell 0
  have e4 := hm.box.cell 4
  simp only [JA.cells, List.getElem?_toArray, List.getElem?_cons_zero, List.getElem?_cons_succ] at e0 e4
  rw [hpa] at e4
  have HGL := Lib.hid hG
  have HRR := Lib.hid hR
  have HP := Lib.hid hpa
  obtain ⟨q, hq⟩ : ∃ x, (stepAt T t).group = x := ⟨_, rfl⟩
  rw [hq] at c1 ⊢
  clear hm hb hT hv hes hG hR hq hpa
  by_cases hq0 : q < 0
  · have FIN : Hid (fitsOk J.single R G es q = false) := by
      show _ = _
      unfold fitsOk; rw [if_pos (Or.inl hq0)]
    have e1 : decide (q < 0) = true := by simp; omega
    go_enter Try.func57, Try.ntmps57
    go_wp2_with fail
    go_ret
    exact ⟨by rw [FIN.out]; rfl, Below.refl _ _⟩
  · have e1 : decide (q < 0) = false := by simp; omega
    by_cases hqn : (J.n : Int) ≤ q
    · have FIN : Hid (fitsOk J.single R G es q = false) := by
        show _ = _
        unfold fitsOk; rw [if_pos (Or.inr (by rw [HRR.out]; exact hqn))]
      have e2 : decide ((J.n : Int) ≤ q) = true := by simp; omega
      go_enter Try.func57, Try.ntmps57
      go_wp2_with fail
      go_ret
      exact ⟨by rw [FIN.out]; rfl, Below.refl _ _⟩
    · obtain ⟨r, rfl⟩ : ∃ r : Nat, q = r := ⟨q.toNat, by omega⟩
      have hr2 : r < J.n := by omega
      have hnr : ¬ J.n ≤ r := by omega
      have hn0 : 0 < J.n := by omega
      have FIN : Hid (fitsOk J.single R G es r = (decide (ix (roomS R G es) r < 0) || (J.single && decide (es.length = J.m) && decide (0 < ix (usedS J.n es) r) && decide (ix (roomS R G es) r = 1)))) := by
        show _ = _
        unfold fitsOk
        rw [if_neg (by rw [HRR.out]; omega), Int.toNat_natCast, HGL.out, HRR.out]
      obtain ⟨hla, hrow⟩ := HM.out.room hn0
      have rr := hrow.cell r (by rw [HRL.out]; exact hr2)
      have uu := HM.out.used.cell r (by rw [HUL.out]; exact hr2)
      have e1' := HM.out.box.cell 1
      have e2' := HM.out.box.cell 2
      have e7 := HM.out.box.cell 7
      have e8 := HM.out.box.cell 8
      have e9 := HM.out.box.cell 9
      simp only [JA.cells, List.getElem?_toArray, List.getElem?_cons_zero, List.getElem?_cons_succ] at e1' e2' e7 e8 e9
      rw [hla] at e8
      obtain ⟨a, ha⟩ : ∃ x, ix (roomS R G es) r = x := ⟨_, rfl⟩
      obtain ⟨u, hu⟩ : ∃ x, ix (usedS J.n es) r = x := ⟨_, rfl⟩
      rw [ha, hu] at FIN
      rw [ha] at rr
      rw [hu] at uu
      clear ha hu hrow hla hqn hq0 e1
      by_cases ha0 : a < 0
      · have e2 : decide (a < 0) = true := by simp; omega
        have FI : Hid (fitsOk J.single R G es r = true) := by rw [FIN.out, e2]; rfl
        go_enter Try.func57, Try.ntmps57
        go_wp2_with fail
        go_quiet (fail)
        go_wp2
        go_ret
        exact ⟨by rw [FI.out]; rfl, below_drewN (Below.refl _ _) _⟩
      · have e2 : decide (a < 0) = false := by simp; omega
        cases hsg : J.single
        · have FI : Hid (fitsOk false R G es r = false) := by
            have h := FIN.out
            rw [e2, hsg] at h
            exact h
          rw [hsg] at e2'
          clear hsg
          go_enter Try.func57, Try.ntmps57
          go_wp2_with fail
          go_quiet (fail)
          go_wp2
          go_ret
          exact ⟨by rw [FI.out]; rfl, below_drewN (Below.refl _ _) _⟩
        · have FI0 : Hid (fitsOk true R G es r = (decide (es.length = J.m) && decide (0 < u) && decide (a = 1))) := by
            have h := FIN.out
            rw [e2, hsg] at h
            show _ = _
            simpa using h
          rw [hsg] at e2'
          clear hsg FIN
          obtain ⟨arr, clock, hh, hsz⟩ := HM.out.map.open_len
          rw [← hsz] at FI0
          have hl1 : ∀ T, (Builtin.len_ #[76] T #[.map (some J.mb)]).run Try.prog w = .ok (.int .i64 (arr.size : Int)) w := fun T => run_len_map w _ T J.mb arr clock Try.underlying76 hh
          have hl2 : ∀ T q, (Builtin.len_ #[76] T #[.map (some J.mb)]).run Try.prog (w.drewN q) = .ok (.int .i64 (arr.size : Int)) (w.drewN q) := fun T q => run_len_map (w.drewN q) _ T J.mb arr clock Try.underlying76 hh
          clear hsz hh
          by_cases h1 : arr.size = J.m
          · have e3 : ((arr.size : Int) == (J.m : Int)) = true := by simp; omega
            have e3' : (arr.size == J.m) = true := by simp; exact h1
            have FI1 : Hid (fitsOk true R G es r = (decide (0 < u) && decide (a = 1))) := by rw [FI0.out, decide_eq_true h1]; rfl
            clear h1 FI0
            by_cases hu : 0 < u
            · have e4'' : decide (0 < u) = true := by simp; omega
              by_cases ha1 : a = 1
              · have e5 : (a == 1) = true := by simp; exact ha1
                have FI : Hid (fitsOk true R G es r = true) := by rw [FI1.out, e4'', decide_eq_true ha1]; rfl
                clear ha1 hu FI1
                go_enter Try.func57, Try.ntmps57
                go_wp2_with fail
                go_quiet (fail)
                go_wp2
                go_ret
                exact ⟨by rw [FI.out]; rfl, below_drewN (Below.refl _ _) _⟩
              · have e5 : (a == 1) = false := by simp; exact ha1
                have FI : Hid (fitsOk true R G es r = false) := by rw [FI1.out, e4'', decide_eq_false ha1]; rfl
                clear ha1 hu FI1
                go_enter Try.func57, Try.ntmps57
                go_wp2_with fail
                go_quiet (fail)
                go_wp2
                go_ret
                exact ⟨by rw [FI.out]; rfl, below_drewN (Below.refl _ _) _⟩
            · have e4'' : decide (0 < u) = false := by simp; omega
              have FI : Hid (fitsOk true R G es r = false) := by rw [FI1.out, e4'']; rfl
              clear hu FI1
              go_enter Try.func57, Try.ntmps57
              go_wp2_with fail
              go_quiet (fail)
              go_wp2
              go_ret
              exact ⟨by rw [FI.out]; rfl, below_drewN (Below.refl _ _) _⟩
          · have e3 : ((arr.size : Int) == (J.m : Int)) = false := by simp; omega
            have e3' : (arr.size == J.m) = false := by simp; exact h1
            have FI : Hid (fitsOk true R G es r = false) := by rw [FI0.out, decide_eq_false h1]; rfl
            clear h1 FI0
            go_enter Try.func57, Try.ntmps57
            go_wp2_with fail
            go_quiet (fail)
            go_wp2
            go_ret
            exact ⟨by rw [FI.out]; rfl, below_drewN (Below.refl _ _) _⟩
end Go.Proofs.Ytaomlhhlefpdeaa

namespace Go.Proofs.Ytaomlhhlefpdeaa
open Go.RowKit Go.IntWalk

set_option maxRecDepth 10000 in
set_option maxHeartbeats 1600000 in
theorem kid_any (J : JA) (w0 w : World) (R : List Int) (G es : List (Int × Int)) (seen : List Bool) (g kk : Nat) (run : Int) (Post : Bool → List Bool → Prop)
    (hj : JOk J w0.heap.size) (hm : JMem w J R G es seen) (hb : Below w0.heap.size w0 w) (hG : Pairs w0 J.ga J.m G) (hv : ValuesOk G) (hR : R.length = J.n) (hRb : ∀ r, r < J.n → 1 ≤ ix R r ∧ ix R r ≤ 4000)
    (hg : g < J.m) (hr : -1 ≤ run ∧ run < J.n) (hes : EsOk J.n J.m es) (hnew : ∀ p ∈ es, p.1 ≠ (g : Int)) (hl : es.length ≤ 100000)
    (hright : ∀ wx, JMem wx J R G (es ++ [((g : Int), run)]) seen → JFrame J w wx → Calls Try.prog 58 #[.pointer (some ⟨J.jb, 0, none⟩), .int .i64 kk] wx fun e w' =>
      ∃ q s', e = .returned (.bool q) ∧ Post q s' ∧ JMem w' J R G (es ++ [((g : Int), run)]) s' ∧ JFrame J wx w') :
    Calls Try.prog 72 #[.pointer (some ⟨J.jb, 0, none⟩), .int .i64 kk, .int .i64 g, .int .i64 run] w fun e w' => ∃ q s', e = .returned (.bool q) ∧ Post q s' ∧ JMem w' J R G es s' ∧ JFrame J w w' := by
  have HPUT := Lib.hid (put_any J w0 w R G es seen g run hj hm hb hG hv hR hRb hg hr hes hnew hl)
  have HUNDO : Hid (∀ s' wx, JMem wx J R G (es ++ [((g : Int), run)]) s' → JFrame J w wx → _) := fun s' wx hx fx =>
    undo_any .returning J w0 wx R G es s' g run hj hx (hb.trans (fx.to_below hj hb.size)) hG hv hR hRb hg hr hes hnew hl
  have HRT := Lib.hid hright
  clear hj hm hb hG hv hR hRb hg hr hes hnew hl hright
  go_enter_defers Try.func72, Try.ntmps72
  go_wp2_with (go_at_call 87; refine HPUT.out.mono ?_; rintro e w1 ⟨rfl, h1, f1⟩; have H1 := Lib.hid h1; have F1 := Lib.hid f1; clear h1 f1)
  go_wp2_with (go_at_call 58; refine (HRT.out w1 H1.out F1.out).mono ?_; rintro e w2 ⟨q, s', rfl, hp, h2, f2⟩)
  refine leaves_cons (f := 88) (args := #[.pointer (some ⟨J.jb, 0, none⟩), .int .i64 g]) (by simp) (by simp [go_sem]) ?_
  refine (HUNDO.out s' w2 h2 (F1.out.trans f2)).mono ?_
  rintro e u' w3 ⟨rfl, rfl, h3, f3⟩
  exact ⟨_, results_tmp rfl _ _ _, q, s', rfl, hp, h3, (F1.out.trans f2).trans f3⟩
end Go.Proofs.Ytaomlhhlefpdeaa
