/- foyerlaw22: example, packing; the examples' facts; The judge's put: what is decided about one group. -/
import Derived.Test.YtaomlhhlefpdeaaQFitBound01
import Derived.Test.YtaomlhhlefpdeaaQFitBound13
import Derived.Test.YtaomlhhlefpdeaaQFitBound17
import Derived.Test.YtaomlhhlefpdeaaQFitBound28
import Derived.Test.YtaomlhhlefpdeaaQFitBound32
import Derived.Test.YtaomlhhlefpdeaaQFitBound39
import Derived.Deep.RegionWith

namespace Go.Proofs.Ytaomlhhlefpdeaa
open Go.RowKit

def insP (x : Int × Int) : List (Int × Int) → List (Int × Int)
  | [] => [x]
  | y :: L => if x.2 ≤ y.2 then x :: y :: L else y :: insP x L

def sortP : List (Int × Int) → List (Int × Int)
  | [] => []
  | x :: L => insP x (sortP L)

theorem insP_perm (x : Int × Int) : ∀ L, (insP x L).Perm (x :: L) := by
  intro L
  induction L with
  | nil => exact List.Perm.refl _
  | cons y L ih =>
    rw [insP]
    split
    · exact List.Perm.refl _
    · exact (ih.cons y).trans (List.Perm.swap x y L)

theorem insP_sorted (x : Int × Int) : ∀ L : List (Int × Int), L.Pairwise (fun a b => a.2 ≤ b.2) → (insP x L).Pairwise (fun a b => a.2 ≤ b.2) := by
  intro L
  induction L with
  | nil => intro _; exact List.pairwise_singleton ..
  | cons y L ih =>
    intro h
    rw [List.pairwise_cons] at h
    rw [insP]
    split
    · rename_i hxy
      refine List.Pairwise.cons (fun z hz => ?_) (List.pairwise_cons.mpr h)
      rcases List.mem_cons.mp hz with rfl | hz
      · exact hxy
      · have := h.1 z hz; omega
    · refine List.Pairwise.cons (fun z hz => ?_) (ih h.2)
      rcases List.mem_cons.mp ((insP_perm x L).mem_iff.mp hz) with rfl | hz
      · omega
      · exact h.1 z hz

theorem sortP_ok : ∀ L, (sortP L).Perm L ∧ (sortP L).Pairwise (fun a b => a.2 ≤ b.2) := by
  intro L
  induction L with
  | nil => exact ⟨List.Perm.refl _, List.Pairwise.nil⟩
  | cons x L ih => exact ⟨(insP_perm x _).trans (ih.1.cons x), insP_sorted x _ ih.2⟩

def legalB (single : Bool) (R : List Int) (G S : List (Int × Int)) (V : Int) : Bool :=
  validS R G && (decide (S.length = G.length) && (match placed R G S S.length with
    | none => false
    | some q => (List.range R.length).all (fun r => rowOk single (ix R r) (sortP (qx q.1 r))) && decide (q.2 = V)))

theorem legalB_iff (single : Bool) (R : List Int) (G S : List (Int × Int)) (V : Int) : LegalP single R G S V ↔ legalB single R G S V = true := by
  unfold LegalP legalB
  cases hv : validS R G
  · simp
  · by_cases hl : S.length = G.length
    · have hvp := (validS_parts hv).2.2
      cases hp : placed R G S S.length with
      | none => simp
      | some q =>
        have hin := placed_in hvp S.length q (by omega) hp
        have hrow : ∀ r, r < R.length → (RowLegal single (ix R r) (qx q.1 r) ↔ rowOk single (ix R r) (sortP (qx q.1 r)) = true) := fun r hr =>
          rowLegal_iff single _ _ _ (fun x hx => (hin r hr x hx).1.1) (sortP_ok _).1 (sortP_ok _).2
        simp only [hl, decide_true, Bool.true_and, true_and, Bool.and_eq_true, List.all_eq_true, List.mem_range, decide_eq_true_eq, Option.some.injEq]
        constructor
        · rintro ⟨q', rfl, h1, h2⟩
          exact ⟨fun r hr => (hrow r hr).mp (h1 r hr), h2⟩
        · rintro ⟨h1, h2⟩
          exact ⟨q, rfl, fun r hr => (hrow r hr).mpr (h1 r hr), h2⟩
    · simp [hl]

theorem legal_eq {single : Bool} {R : List Int} {G S : List (Int × Int)} {V : Int} {q b : Bool} (h : q = true ↔ LegalP single R G S V) (hb : legalB single R G S V = b) : q = b := by
  rw [legalB_iff, hb] at h
  cases q <;> cases b <;> simp_all

theorem check_eq {single : Bool} {R : List Int} {G S : List (Int × Int)} {V : Int} {T : List StepT} {l : Nat} {q b : Bool} (h : q = true ↔ LegalP single R G S V ∧ 0 < l ∧ l ≤ 100000 ∧ checkS single R G V T = true)
    (hb : (legalB single R G S V && (decide (0 < l ∧ l ≤ 100000) && checkS single R G V T)) = b) : q = b := by
  have h2 : q = true ↔ (legalB single R G S V && (decide (0 < l ∧ l ≤ 100000) && checkS single R G V T)) = true := by
    rw [h, legalB_iff]
    simp only [Bool.and_eq_true, decide_eq_true_eq, and_assoc]
  rw [hb] at h2
  cases q <;> cases b <;> simp_all

theorem he1 : legalB false [4, 3] exG [(0, 0), (1, 0), (-1, 0)] 9 = true := by decide +kernel
theorem he2 : legalB true [4, 3] exG [(0, 0), (1, 0), (-1, 0)] 9 = false := by decide +kernel
theorem he3 : legalB false [4, 3] exG [(1, 0), (-1, 0), (0, 1)] 8 = true := by decide +kernel
theorem he4 : legalB true [4, 3] exG [(1, 0), (-1, 0), (0, 1)] 8 = false := by decide +kernel
theorem he5 : legalB false [4, 3] exG [(1, 0), (-1, 0), (0, 0)] 8 = true := by decide +kernel
theorem he6 : legalB true [4, 3] exG [(1, 0), (-1, 0), (0, 0)] 8 = true := by decide +kernel
theorem hc1 : (legalB false [4, 3] exG [(0, 0), (1, 0), (-1, 0)] 9 && (decide (0 < 1 ∧ 1 ≤ 100000) && checkS false [4, 3] exG 9 [⟨2, 0, []⟩])) = false := by decide +kernel
theorem hc2 : (legalB true [2] [(1, 5)] [(-1, 0)] 0 && (decide (0 < 3 ∧ 3 ≤ 100000) && checkS true [2] [(1, 5)] 0 [⟨1, 0, [1, 2]⟩, ⟨3, 0, []⟩, ⟨2, 0, []⟩])) = true := by decide +kernel
theorem hc3 : (legalB true [2] [(1, 5)] [(-1, 0)] 0 && (decide (0 < 1 ∧ 1 ≤ 100000) && checkS true [2] [(1, 5)] 0 [⟨2, 0, []⟩])) = false := by decide +kernel
theorem hb9 : bestS false [4, 3] exG = 9 := by decide +kernel
theorem hb8 : bestS true [4, 3] exG = 8 := by decide +kernel
theorem hc4 : (legalB true [4, 3] exG [(1, 0), (-1, 0), (0, 0)] 8 && (decide (0 < (proveL true [4, 3] exG).length ∧ (proveL true [4, 3] exG).length ≤ 100000) && checkS true [4, 3] exG 8 (proveL true [4, 3] exG))) = true := by decide +kernel

set_option maxHeartbeats 400000 in
theorem example22_any (single : Bool) (w : World) : Calls Try.prog 50 #[.bool single] w (ExPost single w) := by
  go_enter Try.func50, Try.ntmps50
  go_wp2
  have hb : Below w.heap.size w (((w.alloc (.cells #[.slice (some ⟨w.heap.size + 1, 0, none⟩) 2 2, .slice (some ⟨w.heap.size + 1 + 1, 0, none⟩) 3 3, .bool single] 25)).alloc (.cells #[.int .i64 4, .int .i64 3] 3)).alloc (.cells #[.int .i64 3, .int .i64 2, .int .i64 3, .int .i64 1, .int .i64 2, .int .i64 1] 37)) :=
    (((Below.refl _ _).alloc (Nat.le_refl _) _).alloc (by simp) _).alloc (by simp; omega) _
  refine bodyPost_ret (v := .agg #[.slice (some ⟨w.heap.size + 1, 0, none⟩) 2 2, .slice (some ⟨w.heap.size + 1 + 1, 0, none⟩) 3 3, .bool single]) (by simp [results, Try.results50, go_sem]) rfl
    ⟨_, _, 2, 3, rfl, hb, Box.ints [4, 3] ((Box.new (by simp)).alloc _), Box.pairs exG (Box.new (by simp)), fun h => by simp at h⟩

/-- What packing leaves. -/
def PkPost (V : Int) (S : List (Int × Int)) (w : World) (e : Ending) (w' : World) : Prop := ∃ sa sc, e = .returned (.agg #[.slice sa 3 sc, .int .i64 V]) ∧ Below w.heap.size w w' ∧ Pairs w' sa 3 S

set_option maxHeartbeats 400000 in
theorem packing_any (V a b c d e f : Int) (w : World) : Calls Try.prog 49 #[.int .i64 V, .agg #[.int .i64 a, .int .i64 b], .agg #[.int .i64 c, .int .i64 d], .agg #[.int .i64 e, .int .i64 f]] w (PkPost V [(a, b), (c, d), (e, f)] w) := by
  go_enter Try.func49, Try.ntmps49
  go_wp2
  have hb : Below w.heap.size w (((((w.alloc (.cells #[.int .i64 a, .int .i64 b] 39)).alloc (.cells #[.int .i64 c, .int .i64 d] 39)).alloc (.cells #[.int .i64 e, .int .i64 f] 39)).alloc (.cells #[.slice (some ⟨w.heap.size + 1 + 1 + 1 + 1, 0, none⟩) 3 3, .int .i64 V] 30)).alloc (.cells #[.int .i64 a, .int .i64 b, .int .i64 c, .int .i64 d, .int .i64 e, .int .i64 f] 39)) :=
    (((((Below.refl _ _).alloc (Nat.le_refl _) _).alloc (by simp) _).alloc (by simp; omega) _).alloc (by simp; omega) _).alloc (by simp; omega) _
  refine bodyPost_ret (v := .agg #[.slice (some ⟨w.heap.size + 1 + 1 + 1 + 1, 0, none⟩) 3 3, .int .i64 V]) (by simp [results, Try.results49, go_sem]) rfl
    ⟨_, 3, rfl, hb, Box.pairs [(a, b), (c, d), (e, f)] (Box.new (by simp))⟩
end Go.Proofs.Ytaomlhhlefpdeaa

namespace Go.Proofs.Ytaomlhhlefpdeaa
open Go.RowKit Go.IntWalk

theorem worth_eq (s v : Int) (w : World) (hs : 1 ≤ s ∧ s ≤ 12) (hv : 0 ≤ v ∧ v ≤ 1000000) : Calls Try.prog 43 #[.agg #[.int .i64 s, .int .i64 v]] w fun e w' => e = .returned (.int .i64 (s * v)) ∧ w' = w.alloc (.cells #[.int .i64 s, .int .i64 v] 37) := by
  have h0 : 0 ≤ s * v := Int.mul_nonneg (by omega) (by omega)
  have h1 : s * v ≤ 12 * v := Int.mul_le_mul_of_nonneg_right hs.2 hv.1
  go_enter Try.func43, Try.ntmps43
  go_wp2_with fail
  go_ret
  exact ⟨rfl, rfl⟩

set_option maxRecDepth 10000 in
set_option maxHeartbeats 1600000 in
theorem put_any (J : JA) (w0 w : World) (R : List Int) (G es : List (Int × Int)) (seen : List Bool) (g : Nat) (run : Int)
    (hj : JOk J w0.heap.size) (hm : JMem w J R G es seen) (hb : Below w0.heap.size w0 w) (hG : Pairs w0 J.ga J.m G) (hv : ValuesOk G) (hR : R.length = J.n) (hRb : ∀ r, r < J.n → 1 ≤ ix R r ∧ ix R r ≤ 4000)
    (hg : g < J.m) (hr : -1 ≤ run ∧ run < J.n) (hes : EsOk J.n J.m es) (hnew : ∀ p ∈ es, p.1 ≠ (g : Int)) (hl : es.length ≤ 100000) :
    Calls Try.prog 87 #[.pointer (some ⟨J.jb, 0, none⟩), .int .i64 g, .int .i64 run] w fun e w' => e = .returned (.tuple #[]) ∧ JMem w' J R G (es ++ [((g : Int), run)]) seen ∧ JFrame J w w' := by
  obtain ⟨w1, hup, h1, f1⟩ := JGen.put hm hj (g : Int) run hnew
  have HROOM := Lib.hid (roomS_bounds hv hG.1 (fun _ => 4000) es R (fun _ => 1) hes hR hRb)
  have HUSED := Lib.hid (usedS_bounds es (List.replicate J.n 0) (fun _ => 0) hes (by simp) (fun r hr => by simp [ix, List.getD, hr]))
  have HVAL := Lib.hid (valS_bounds hv hG.1 es 0 hes (Int.le_refl _))
  have HG := Lib.hid hG; have HV := Lib.hid hv; have HB := Lib.hid hb; have H1 := Lib.hid h1; have F1 := Lib.hid f1; have HJ := Lib.hid hj
  have b7 := hm.box.cell 7
  have hlt : w0.heap.size ≤ w.heap.size := hb.size
  simp only [JA.cells, List.getElem?_toArray, List.getElem?_cons_zero, List.getElem?_cons_succ] at b7
  have hes2 := hes
  clear hG hv hb h1 f1 hm hes hnew hRb hes2
  by_cases hrun : 0 ≤ run
  · obtain ⟨r, rfl⟩ : ∃ r : Nat, run = r := ⟨run.toNat, by omega⟩
    have hr2 : r < J.n := by omega
    have hn0 : 0 < J.n := by omega
    have hb1 : Below w0.heap.size w0 w1 := HB.out.trans (F1.out.to_below hj hlt)
    have hroom : 1 - 12 * (es.length : Int) ≤ ix (roomS R G es) r ∧ ix (roomS R G es) r ≤ 4000 := HROOM.out.2 r hr2
    have hused : 0 ≤ ix (usedS J.n es) r ∧ ix (usedS J.n es) r ≤ 0 + es.length := HUSED.out.2 r hr2
    have hval : 0 ≤ valS G es ∧ valS G es ≤ 0 + 12000000 * es.length := HVAL.out
    have HRL : Hid ((roomS R G es).length = J.n) := HROOM.out.1
    have HUL : Hid ((usedS J.n es).length = J.n) := HUSED.out.1
    have hgg := HV.out g (by rw [HG.out.1]; exact hg)
    have HPUSH : Hid (roomS R G (es ++ [((g : Int), (r : Int))]) = (roomS R G es).set r (ix (roomS R G es) r - gs G g) ∧ usedS J.n (es ++ [((g : Int), (r : Int))]) = (usedS J.n es).set r (ix (usedS J.n es) r + 1) ∧ valS G (es ++ [((g : Int), (r : Int))]) = valS G es + gs G g * gv G g) := by
      rw [roomS_push, usedS_push, valS_push]
      unfold roomF usedF valF
      dsimp only
      rw [if_pos (by omega), if_pos (by omega), if_pos (by omega), Int.toNat_natCast, Int.toNat_natCast]
      exact ⟨rfl, rfl, rfl⟩
    obtain ⟨bg, og, hga, c1, c2⟩ := (HG.out.below hb1).2 g hg
    obtain ⟨hla, hrow⟩ := H1.out.room hn0
    have rr := hrow.cell r (by rw [HRL.out]; exact hr2)
    have rf := hrow.free r
    obtain ⟨a, ha⟩ : ∃ x, ix (roomS R G es) r = x := ⟨_, rfl⟩
    obtain ⟨u, hu⟩ : ∃ x, ix (usedS J.n es) r = x := ⟨_, rfl⟩
    obtain ⟨v0, hv0⟩ : ∃ x, valS G es = x := ⟨_, rfl⟩
    obtain ⟨s, hs⟩ : ∃ x, gs G g = x := ⟨_, rfl⟩
    obtain ⟨v, hv⟩ : ∃ x, gv G g = x := ⟨_, rfl⟩
    rw [ha, hu, hv0, hs, hv] at HPUSH
    rw [hs] at c1 hgg; rw [hv] at c2 hgg
    rw [ha] at rr hroom; rw [hu] at hused; rw [hv0] at hval H1
    have e1 := H1.out.box.cell 1
    have e8 := H1.out.box.cell 8
    simp only [JA.cells, List.getElem?_toArray, List.getElem?_cons_zero, List.getElem?_cons_succ] at e1 e8
    rw [hla] at e8
    rw [hga] at e1
    have HGA := Lib.hid hga
    have FR := Lib.hid ((⟨H1.out.setRoom hj hn0 r (by rw [HRL.out]; exact hr2) (a - s), frame_set J.rb r (.int .i64 (a - s)) (Or.inr (Or.inr (Or.inl rfl)))⟩ : _ ∧ JFrame J w1 (w1.setCell ⟨J.rb, r, none⟩ (.int .i64 (a - s)))))
    have hw : wrap64 (a - s) = a - s := wrap64_in _ (by omega)
    have HU := Lib.hid hu
    have HSS := Lib.hid hs
    have HVV := Lib.hid hv
    have p0 : 0 ≤ s * v := Int.mul_nonneg (by omega) (by omega)
    have p1 : s * v ≤ 12 * v := Int.mul_le_mul_of_nonneg_right hgg.1.2 hgg.2.1
    clear ha hu hv0 hs hv hga hrow hla HROOM HUSED HVAL
    go_enter Try.func87, Try.ntmps87
    go_upto_region 2 with fail
    go_cut [30] (fun _ wx => Hid (JGen wx J v0 (es ++ [((g : Int), (r : Int))]) ((roomS R G es).set r (a - s)) (usedS J.n es) seen) ∧ Hid (JFrame J w1 wx))
    case first =>
      go_region
      all_goals
        go_wp2_with fail
        go_meet
      all_goals
        case rel => exact ⟨FR.out.1.below ((Below.refl _ _).drew), FR.out.2.trans (JFrame.of_below ((Below.refl _ _).drew))⟩
    case rest =>
      obtain ⟨H2, F2⟩ := hcut
      clear rr rf e1 e8 c1 c2 FR hw
      have e9 := H2.out.box.cell 9
      have uu := H2.out.used.cell r (by rw [HUL.out]; exact hr2)
      rw [HU.out] at uu
      have uf := H2.out.used.free r
      simp only [JA.cells, List.getElem?_toArray, List.getElem?_cons_zero, List.getElem?_cons_succ] at e9
      have F3 := Lib.hid ((⟨H2.out.setUsed hj r (by rw [HUL.out]; exact hr2) (u + 1), F2.out.trans (frame_set J.ub r (.int .i64 (u + 1)) (Or.inr (Or.inr (Or.inr (Or.inl rfl)))))⟩ : _ ∧ JFrame J w1 (wc.setCell ⟨J.ub, r, none⟩ (.int .i64 (u + 1)))))
      clear H2 F2
      go_upto_region 4 with fail
      generalize (wc.setCell ⟨J.ub, r, none⟩ (.int .i64 (u + 1))) = w3 at *
      clear e9 uu uf
      have hb3 : Below w0.heap.size w0 w3 := HB.out.trans ((F1.out.trans F3.out.2).to_below hj hlt)
      obtain ⟨bg', og', hga, c1, c2⟩ := (HG.out.below hb3).2 g hg
      rw [HGA.out] at hga
      obtain ⟨rfl, rfl⟩ : bg = bg' ∧ og = og' := by simpa using hga
      rw [HSS.out] at c1
      rw [HVV.out] at c2
      have e1 := F3.out.1.box.cell 1
      have e10 := F3.out.1.box.cell 10
      have ef := F3.out.1.box.free 10
      have g1 : ∀ o, (w3.alloc o).cell? ⟨J.jb, 10, none⟩ = some (.int .i64 v0) := fun o => (F3.out.1.box.alloc o).cell 10
      have g2 : ∀ o, (w3.alloc o).frozen? ⟨J.jb, 10, none⟩ = false := fun o => (F3.out.1.box.alloc o).free 10
      simp only [JA.cells, List.getElem?_toArray, List.getElem?_cons_zero, List.getElem?_cons_succ] at e1 e10
      rw [HGA.out] at e1
      have HW := fun wx => worth_eq s v wx hgg.1 hgg.2
      have h4 := F3.out.1.below ((Below.refl _ _).alloc (Nat.le_refl _) (.cells #[.int .i64 s, .int .i64 v] 37))
      have F4 := Lib.hid ((⟨h4.setVal hj (v0 + s * v), (F3.out.2.trans (JFrame.of_below ((Below.refl _ _).alloc (Nat.le_refl _) _))).trans (frame_set J.jb 10 (.int .i64 (v0 + s * v)) (Or.inl rfl))⟩ : _ ∧ JFrame J w1 ((w3.alloc (.cells #[.int .i64 s, .int .i64 v] 37)).setCell ⟨J.jb, 10, none⟩ (.int .i64 (v0 + s * v)))))
      have HW := Lib.hid HW
      have hwr : IntKind.i64.wrap (v0 + s * v) = v0 + s * v := (i64_left _).trans (wrap64_in _ (by omega))
      have FIN : Hid (JMem ((w3.alloc (.cells #[.int .i64 s, .int .i64 v] 37)).setCell ⟨J.jb, 10, none⟩ (.int .i64 (v0 + s * v))) J R G (es ++ [((g : Int), (r : Int))]) seen) := by
        have h := F4.out.1
        show JMem _ _ _ _ _ _
        unfold JMem
        rw [HPUSH.out.1, HPUSH.out.2.1, HPUSH.out.2.2]
        exact h
      clear hga h4
      go_region_with (go_at_call 43; refine (HW.out _).mono ?_; rintro e w4 ⟨rfl, rfl⟩)
      all_goals
        go_end0
        exact ⟨rfl, FIN.out.below ((Below.refl _ _).drew), F1.out.trans (F4.out.2.trans (JFrame.of_below ((Below.refl _ _).drew)))⟩
  · obtain rfl : run = -1 := by omega
    go_enter Try.func87, Try.ntmps87
    go_wp2_with fail
    go_end0
    refine ⟨rfl, ?_, F1.out⟩
    have h := H1.out
    unfold JMem
    rw [roomS_push, usedS_push, valS_push]
    exact h
end Go.Proofs.Ytaomlhhlefpdeaa
