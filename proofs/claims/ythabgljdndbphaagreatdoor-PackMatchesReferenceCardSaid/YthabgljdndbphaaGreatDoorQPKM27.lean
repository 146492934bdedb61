/- The judge's put: what is decided about one group; The judge's bound: a step of kind 'bound'. -/
import Derived.Test.YthabgljdndbphaaGreatDoorQPKM08
import Derived.Test.YthabgljdndbphaaGreatDoorQPKM10
import Derived.Deep.RegionWith
import Derived.Deep.RegionHeld3

set_option linter.unusedVariables false
set_option linter.unusedSimpArgs false
namespace Go.Proofs.YthabgljdndbphaaGreatDoor
open Go.RowKit Go.IntWalk

theorem worth_eq (s v : Int) (w : World) (hs : 1 ≤ s ∧ s ≤ 12) (hv : 0 ≤ v ∧ v ≤ 1000000) : Calls Tryz.prog 30 #[.agg #[.int .i64 s, .int .i64 v]] w fun e w' => e = .returned (.int .i64 (s * v)) ∧ w' = w.alloc (.cells #[.int .i64 s, .int .i64 v] 49) := by
 have h0 : 0 ≤ s * v := Int.mul_nonneg (by omega) (by omega)
 have h1 : s * v ≤ 12 * v := Int.mul_le_mul_of_nonneg_right hs.2 hv.1
 go_enter Tryz.func30, Tryz.ntmps30
 go_wp2_with fail
 go_ret
 exact ⟨rfl, rfl⟩

set_option maxRecDepth 10000 in
set_option maxHeartbeats 1600000 in
theorem put_any (J : JA) (w0 w : World) (R : List Int) (G es : List (Int × Int)) (seen : List Bool) (g : Nat) (run : Int)
  (hj : JOk J w0.heap.size) (hm : JMem w J R G es seen) (hb : Below w0.heap.size w0 w) (hG : Pairs w0 J.ga J.m G) (hv : ValuesOk G) (hR : R.length = J.n) (hRb : ∀ r, r < J.n → 1 ≤ ix R r ∧ ix R r ≤ 4000)
  (hg : g < J.m) (hr : -1 ≤ run ∧ run < J.n) (hes : EsOk J.n J.m es) (hnew : ∀ p ∈ es, p.1 ≠ (g : Int)) (hl : es.length ≤ 100000) :
  Calls Tryz.prog 76 #[.pointer (some ⟨J.jb, 0, none⟩), .int .i64 g, .int .i64 run] w fun e w' => e = .returned (.tuple #[]) ∧ JMem w' J R G (es ++ [((g : Int), run)]) seen ∧ JFrame J w w' := by
 obtain ⟨w1, hup, h1, f1⟩ := JGen.put hm hj (g : Int) run hnew
 have HROOM := Lib.hid (roomS_bounds hv hG.1 (fun _ => 4000) es R (fun _ => 1) hes hR hRb)
 have HUSED := Lib.hid (usedS_bounds es (List.replicate J.n 0) (fun _ => 0) hes (by simp) (fun r hr => by simp [ix, List.getD, hr]))
 have HVAL := Lib.hid (valS_bounds hv hG.1 es 0 hes (Int.le_refl _))
 have HG := Lib.hid hG; have HV := Lib.hid hv; have HB := Lib.hid hb; have H1 := Lib.hid h1; have F1 := Lib.hid f1; have HJ := Lib.hid hj
 have b7 := hm.box.cell 7
 have hlt : w0.heap.size ≤ w.heap.size := hb.size
 simp only [JA.cells, List.getElem?_toArray, List.getElem?_cons_zero, List.getElem?_cons_succ] at b7
 have hes2 := hes
 clear hG hv hb h1 f1 hm hes hnew hRb hes2
 by_cases hrun : 0 ≤ run
 ·
  obtain ⟨r, rfl⟩ : ∃ r : Nat, run = r := ⟨run.toNat, by omega⟩
  have hr2 : r < J.n := by omega
  have hn0 : 0 < J.n := by omega
  have hb1 : Below w0.heap.size w0 w1 := HB.out.trans (F1.out.to_below hj hlt)
  have hroom : 1 - 12 * (es.length : Int) ≤ ix (roomS R G es) r ∧ ix (roomS R G es) r ≤ 4000 := HROOM.out.2 r hr2
  have hused : 0 ≤ ix (usedS J.n es) r ∧ ix (usedS J.n es) r ≤ 0 + es.length := HUSED.out.2 r hr2
  have hval : 0 ≤ valS G es ∧ valS G es ≤ 0 + 12000000 * es.length := HVAL.out
  have HRL : Hid ((roomS R G es).length = J.n) := HROOM.out.1
  have HUL : Hid ((usedS J.n es).length = J.n) := HUSED.out.1
  have hgg := HV.out g (by rw [HG.out.1]; exact hg)
  have HPUSH : Hid (roomS R G (es ++ [((g : Int), (r : Int))]) = (roomS R G es).set r (ix (roomS R G es) r - gs G g) ∧ usedS J.n (es ++ [((g : Int), (r : Int))]) = (usedS J.n es).set r (ix (usedS J.n es) r + 1) ∧ valS G (es ++ [((g : Int), (r : Int))]) = valS G es + gs G g * gv G g) := by
   rw [roomS_push, usedS_push, valS_push]
   unfold roomF usedF valF
   dsimp only
   rw [if_pos (by omega), if_pos (by omega), if_pos (by omega), Int.toNat_natCast, Int.toNat_natCast]
   exact ⟨rfl, rfl, rfl⟩
  obtain ⟨bg, og, hga, c1, c2⟩ := (HG.out.below hb1).2 g hg
  obtain ⟨hla, hrow⟩ := H1.out.room hn0
  have rr := hrow.cell r (by rw [HRL.out]; exact hr2)
  have rf := hrow.free r
  obtain ⟨a, ha⟩ : ∃ x, ix (roomS R G es) r = x := ⟨_, rfl⟩
  obtain ⟨u, hu⟩ : ∃ x, ix (usedS J.n es) r = x := ⟨_, rfl⟩
  obtain ⟨v0, hv0⟩ : ∃ x, valS G es = x := ⟨_, rfl⟩
  obtain ⟨s, hs⟩ : ∃ x, gs G g = x := ⟨_, rfl⟩
  obtain ⟨v, hv⟩ : ∃ x, gv G g = x := ⟨_, rfl⟩
  rw [ha, hu, hv0, hs, hv] at HPUSH
  rw [hs] at c1 hgg; rw [hv] at c2 hgg
  rw [ha] at rr hroom; rw [hu] at hused; rw [hv0] at hval H1
  have e1 := H1.out.box.cell 1
  have e8 := H1.out.box.cell 8
  simp only [JA.cells, List.getElem?_toArray, List.getElem?_cons_zero, List.getElem?_cons_succ] at e1 e8
  rw [hla] at e8
  rw [hga] at e1
  have HGA := Lib.hid hga
  have FR := Lib.hid ((⟨H1.out.setRoom hj hn0 r (by rw [HRL.out]; exact hr2) (a - s), frame_set J.rb r (.int .i64 (a - s)) (Or.inr (Or.inr (Or.inl rfl)))⟩ : _ ∧ JFrame J w1 (w1.setCell ⟨J.rb, r, none⟩ (.int .i64 (a - s)))))
  have hw : wrap64 (a - s) = a - s := wrap64_in _ (by omega)
  have HU := Lib.hid hu
  have HSS := Lib.hid hs
  have HVV := Lib.hid hv
  have p0 : 0 ≤ s * v := Int.mul_nonneg (by omega) (by omega)
  have p1 : s * v ≤ 12 * v := Int.mul_le_mul_of_nonneg_right hgg.1.2 hgg.2.1
  clear ha hu hv0 hs hv hga hrow hla HROOM HUSED HVAL
  go_enter Tryz.func76, Tryz.ntmps76
  go_upto_region 2 with fail
  go_cut [30] (fun _ wx => Hid (JGen wx J v0 (es ++ [((g : Int), (r : Int))]) ((roomS R G es).set r (a - s)) (usedS J.n es) seen) ∧ Hid (JFrame J w1 wx))
  case first =>
   go_region
   all_goals
    go_wp2_with fail
    go_meet
   all_goals
    case rel => exact ⟨FR.out.1.below ((Below.refl _ _).drew), FR.out.2.trans (JFrame.of_below ((Below.refl _ _).drew))⟩
  case rest =>
   obtain ⟨H2, F2⟩ := hcut
   clear rr rf e1 e8 c1 c2 FR hw
   have e9 := H2.out.box.cell 9
   have uu := H2.out.used.cell r (by rw [HUL.out]; exact hr2)
   rw [HU.out] at uu
   have uf := H2.out.used.free r
   simp only [JA.cells, List.getElem?_toArray, List.getElem?_cons_zero, List.getElem?_cons_succ] at e9
   have F3 := Lib.hid ((⟨H2.out.setUsed hj r (by rw [HUL.out]; exact hr2) (u + 1), F2.out.trans (frame_set J.ub r (.int .i64 (u + 1)) (Or.inr (Or.inr (Or.inr (Or.inl rfl)))))⟩ : _ ∧ JFrame J w1 (wc.setCell ⟨J.ub, r, none⟩ (.int .i64 (u + 1)))))
   clear H2 F2
   go_upto_region 4 with fail
   generalize (wc.setCell ⟨J.ub, r, none⟩ (.int .i64 (u + 1))) = w3 at *
   clear e9 uu uf
   have hb3 : Below w0.heap.size w0 w3 := HB.out.trans ((F1.out.trans F3.out.2).to_below hj hlt)
   obtain ⟨bg', og', hga, c1, c2⟩ := (HG.out.below hb3).2 g hg
   rw [HGA.out] at hga
   obtain ⟨rfl, rfl⟩ : bg = bg' ∧ og = og' := by simpa using hga
   rw [HSS.out] at c1
   rw [HVV.out] at c2
   have e1 := F3.out.1.box.cell 1
   have e10 := F3.out.1.box.cell 10
   have ef := F3.out.1.box.free 10
   have g1 : ∀ o, (w3.alloc o).cell? ⟨J.jb, 10, none⟩ = some (.int .i64 v0) := fun o => (F3.out.1.box.alloc o).cell 10
   have g2 : ∀ o, (w3.alloc o).frozen? ⟨J.jb, 10, none⟩ = false := fun o => (F3.out.1.box.alloc o).free 10
   simp only [JA.cells, List.getElem?_toArray, List.getElem?_cons_zero, List.getElem?_cons_succ] at e1 e10
   rw [HGA.out] at e1
   have HW := fun wx => worth_eq s v wx hgg.1 hgg.2
   have h4 := F3.out.1.below ((Below.refl _ _).alloc (Nat.le_refl _) (.cells #[.int .i64 s, .int .i64 v] 49))
   have F4 := Lib.hid ((⟨h4.setVal hj (v0 + s * v), (F3.out.2.trans (JFrame.of_below ((Below.refl _ _).alloc (Nat.le_refl _) _))).trans (frame_set J.jb 10 (.int .i64 (v0 + s * v)) (Or.inl rfl))⟩ : _ ∧ JFrame J w1 ((w3.alloc (.cells #[.int .i64 s, .int .i64 v] 49)).setCell ⟨J.jb, 10, none⟩ (.int .i64 (v0 + s * v)))))
   have HW := Lib.hid HW
   have hwr : IntKind.i64.wrap (v0 + s * v) = v0 + s * v := (i64_left _).trans (wrap64_in _ (by omega))
   have FIN : Hid (JMem ((w3.alloc (.cells #[.int .i64 s, .int .i64 v] 49)).setCell ⟨J.jb, 10, none⟩ (.int .i64 (v0 + s * v))) J R G (es ++ [((g : Int), (r : Int))]) seen) := by
    have h := F4.out.1
    show JMem _ _ _ _ _ _
    unfold JMem
    rw [HPUSH.out.1, HPUSH.out.2.1, HPUSH.out.2.2]
    exact h
   clear hga h4
   go_region_with (go_at_call 30; refine (HW.out _).mono ?_; rintro e w4 ⟨rfl, rfl⟩)
   all_goals
    go_end0
    exact ⟨rfl, FIN.out.below ((Below.refl _ _).drew), F1.out.trans (F4.out.2.trans (JFrame.of_below ((Below.refl _ _).drew)))⟩
 ·
  obtain rfl : run = -1 := by omega
  go_enter Tryz.func76, Tryz.ntmps76
  go_wp2_with fail
  go_end0
  refine ⟨rfl, ?_, F1.out⟩
  have h := H1.out
  unfold JMem
  rw [roomS_push, usedS_push, valS_push]
  exact h
end Go.Proofs.YthabgljdndbphaaGreatDoor

namespace Go.Proofs.YthabgljdndbphaaGreatDoor
open Go.RowKit Go.IntWalk

theorem left_take : ∀ (L : List Int) (i : Nat), i < L.length → leftS (L.take (i + 1)) = leftS (L.take i) + max (ix L i) 0 := by
 intro L
 induction L with
 | nil => intro i hi; simp at hi
 | cons x L ih =>
  intro i hi
  cases i with
  | zero => simp [leftS, ix]
  | succ i =>
   have := ih i (by simpa using hi)
   have e : ix (x :: L) (i + 1) = ix L i := by simp [ix, List.getD]
   rw [e, List.take_succ_cons, List.take_succ_cons]
   have h1 : ∀ M : List Int, leftS (x :: M) = max x 0 + leftS M := fun M => rfl
   rw [h1, h1, this]; omega

theorem left_le : ∀ (L R : List Int), L.length = R.length → (∀ r, r < R.length → ix L r ≤ ix R r ∧ 0 ≤ ix R r) → 0 ≤ leftS L ∧ leftS L ≤ R.sum := by
 intro L
 induction L with
 | nil =>
  intro R hl _
  obtain rfl : R = [] := List.eq_nil_of_length_eq_zero (by simpa using hl.symm)
  simp [leftS]
 | cons x L ih =>
  intro R hl h
  cases R with
  | nil => simp at hl
  | cons y R =>
   have h0 := h 0 (by simp)
   have i := ih R (by simpa using hl) (fun r hr => by
    have := h (r + 1) (by simpa using hr)
    have e1 : ix (x :: L) (r + 1) = ix L r := by simp [ix, List.getD]
    have e2 : ix (y :: R) (r + 1) = ix R r := by simp [ix, List.getD]
    rw [e1, e2] at this; exact this)
   have e1 : ix (x :: L) 0 = x := rfl
   have e2 : ix (y :: R) 0 = y := rfl
   rw [e1, e2] at h0
   have h1 : leftS (x :: L) = max x 0 + leftS L := rfl
   rw [h1, List.sum_cons]; omega

set_option maxRecDepth 10000 in
set_option maxHeartbeats 800000 in
theorem out_any (J : JA) (w : World) (R : List Int) (G es : List (Int × Int)) (seen : List Bool) (bx : Nat) (x : Int) (hm : JMem w J R G es seen) (hb : w.cell? ⟨bx, 0, none⟩ = some (.pointer (some ⟨J.jb, 0, none⟩))) :
  Calls Tryz.prog 55 (#[.int .i64 x] ++ #[.pointer (some ⟨bx, 0, none⟩)]) w fun e w' => e = .returned (.bool (decidedB es x)) ∧ Below w.heap.size w w' := by
 have hlk := lookup_run hm.map x true
 have b7 := hm.box.cell 7
 simp only [JA.cells, List.getElem?_toArray, List.getElem?_cons_zero, List.getElem?_cons_succ] at b7
 simp only [if_true] at hlk
 change (Instr.lookup 79 (.map (some J.mb)) (.int .i64 x) true).run Tryz.prog w = .ok (.tuple #[_, .bool (decidedB es x)]) w at hlk
 generalize decidedB es x = q at *
 generalize (Option.map Prod.snd (findI x es 0)).getD 0 = z at *
 clear hm
 go_enter Tryz.func55, Tryz.ntmps55
 go_wp2_with fail
 go_ret
 exact ⟨rfl, Below.refl _ _⟩

theorem enter_out (args : Array Value) (w : World) : (callFunc 55 args).run Tryz.prog w = .ok (.enter 55 args) w := by
 kernel_rfl

theorem fillS_range {G : List (Int × Int)} (hv : ValuesOk G) (p : Int → Bool) : ∀ (O : List Int) (n : Int), 0 ≤ n → (∀ x ∈ O, 0 ≤ x ∧ x < G.length) → 0 ≤ fillS G p n O ∧ fillS G p n O ≤ 12000000 * O.length := by
 intro O
 induction O with
 | nil => intro n _ _; simp [fillS]
 | cons x O ih =>
  intro n hn h
  have hx := h x (by simp)
  have hg := hv x.toNat (by omega)
  have hr : ∀ y ∈ O, 0 ≤ y ∧ y < G.length := fun y hy => h y (by simp [hy])
  rw [fillS, List.length_cons]
  split
  ·
   have := ih n hn hr; omega
  ·
   have i := ih (n - min (gs G x.toNat) n) (by omega) hr
   have h0 : 0 ≤ min (gs G x.toNat) n * gv G x.toNat := Int.mul_nonneg (by omega) (by omega)
   have h1 : min (gs G x.toNat) n * gv G x.toNat ≤ 12 * gv G x.toNat := Int.mul_le_mul_of_nonneg_right (by omega) hg.2.1
   omega

set_option maxRecDepth 10000 in
set_option maxHeartbeats 1600000 in
theorem jbound_any (J : JA) (w0 w : World) (R : List Int) (G es : List (Int × Int)) (seen : List Bool) (t : Int)
  (hm : JMem w J R G es seen) (hb : Below w0.heap.size w0 w) (hG : Pairs w0 J.ga J.m G) (hO : Ints w J.oa J.m (rankedL G)) (hv : ValuesOk G) (hR : R.length = J.n) (hRb : ∀ r, r < J.n → 1 ≤ ix R r ∧ ix R r ≤ 4000) (hsum : R.sum ≤ 4000)
  (hes : EsOk J.n J.m es) (hn : J.n ≤ 4000) (hmm : J.m ≤ 4000) (hl : es.length ≤ 100000) :
  Calls Tryz.prog 36 #[.pointer (some ⟨J.jb, 0, none⟩), .int .i64 t] w fun e w' => e = .returned (.bool (boundOk R G es J.most)) ∧ Below w.heap.size w w' := by
 have HRB := Lib.hid (roomS_bounds hv hG.1 (fun r => ix R r) es R (fun r => ix R r) hes hR (fun r hr => ⟨Int.le_refl _, Int.le_refl _⟩))
 have HVAL : Hid (0 ≤ valS G es ∧ valS G es ≤ 0 + 12000000 * es.length) := valS_bounds hv hG.1 es 0 hes (Int.le_refl _)
 have HLR : Hid ((roomS R G es).length = J.n) := HRB.out.1
 have hleft := left_le (roomS R G es) R (by rw [HLR.out, hR]) (fun r hr => ⟨(HRB.out.2 r (by omega)).2, by have := hRb r (by omega); omega⟩)
 have HHI : Hid (∀ r, r < J.n → ix (roomS R G es) r ≤ 4000 ∧ -1200000 ≤ ix (roomS R G es) r) := fun r hr => by
  have h1 : ix R r - 12 * es.length ≤ ix (roomS R G es) r ∧ ix (roomS R G es) r ≤ ix R r := HRB.out.2 r hr
  have := hRb r hr; omega
 have hpb : Below w.heap.size w (w.alloc (.cells #[.pointer (some ⟨J.jb, 0, none⟩)] 76)) := (Below.refl _ _).alloc (Nat.le_refl _) _
 have HM := Lib.hid (hm.below hpb)
 have HG := Lib.hid (hG.below hb); have HO := Lib.hid hO; have HV := Lib.hid hv
 have HOM : Hid (∀ x ∈ rankedL G, 0 ≤ x ∧ x < J.m) := fun x hx => by rw [← hG.1]; exact (mem_idx _ x).1 ((rankedL_ok G).1.mem_iff.1 hx)
 have HBX : Hid (Box (w.alloc (.cells #[.pointer (some ⟨J.jb, 0, none⟩)] 76)) w.heap.size 76 #[.pointer (some ⟨J.jb, 0, none⟩)]) := Box.new rfl
 have HPB := Lib.hid hpb
 have hwz : w.heap.size < (w.alloc (.cells #[.pointer (some ⟨J.jb, 0, none⟩)] 76)).heap.size := by simp
 clear hm hb hG hO hv hRb hes HRB hpb
 obtain ⟨LS, hLS⟩ : ∃ x, leftS (roomS R G es) = x := ⟨_, rfl⟩
 have HLS := Lib.hid hLS
 rw [hLS] at hleft
 clear hLS
 go_enter Tryz.func36, Tryz.ntmps36
 go_upto_region 1 with fail
 generalize (w.alloc (.cells #[.pointer (some ⟨J.jb, 0, none⟩)] 76)) = w1 at *
 generalize hbx : w.heap.size = bx at *
 have x0 := HBX.out.cell 0
 have e8 := HM.out.box.cell 8
 simp only [JA.cells, List.getElem?_toArray, List.getElem?_cons_zero, List.getElem?_cons_succ] at x0 e8
 have HX := Lib.hid hbx
 clear hbx
 go_wp2_with fail
 go_loopw [5, 7, 14] (fun v5 _ v14 wr => ∃ (i : Nat) (s : Int), v14 = .int .i64 i ∧ i ≤ J.n ∧ v5 = .int .i64 s ∧ 0 ≤ s ∧ s ≤ 4000 * i ∧ Hid (s = leftS ((roomS R G es).take i)) ∧ wr = w1) (fun _ _ v14 _ => J.n - (intOf v14).toNat)
 case atStart => exact ⟨0, 0, rfl, Nat.zero_le _, rfl, by omega, by omega, rfl, rfl⟩
 case round =>
  obtain ⟨i, s, rfl, hi, rfl, hs0, hs1, HS, rfl⟩ := hrel
  by_cases hlt : i < J.n
  ·
   obtain ⟨hla, hrow⟩ := HM.out.room (by omega)
   have rr := hrow.cell i (by rw [HLR.out]; exact hlt)
   have hi2 := HHI.out i hlt
   have HT := Lib.hid (left_take (roomS R G es) i (by rw [HLR.out]; exact hlt))
   rw [← HS.out] at HT
   obtain ⟨a, ha⟩ : ∃ x, ix (roomS R G es) i = x := ⟨_, rfl⟩
   rw [ha] at rr hi2 HT
   clear ha hrow
   by_cases ha0 : a < 0
   ·
    have HT2 : Hid (s = leftS ((roomS R G es).take (i + 1))) := by
     have := HT.out
     show _ = _
     omega
    go_wp2_with fail
    go_roundw
    case rel => exact ⟨i + 1, s, by go_num, by omega, rfl, by omega, by omega, HT2, trivial⟩
    case measure => simp [intOf]; omega
   ·
    have HT2 : Hid (s + a = leftS ((roomS R G es).take (i + 1))) := by
     have := HT.out
     show _ = _
     omega
    go_wp2_with fail
    go_roundw
    case rel => exact ⟨i + 1, s + a, by go_num, by omega, rfl, by omega, by omega, HT2, trivial⟩
    case measure => simp [intOf]; omega
  ·
   have HSL : Hid (s = LS) := by
    have := HS.out
    rw [List.take_of_length_le (by rw [HLR.out]; omega), HLS.out] at this
    exact this
   clear HS
   rw [HSL.out] at *
   have HOW : Hid (Ints wr J.oa J.m (rankedL G)) := HO.out.below (by rw [HX.out]; exact HPB.out)
   have HGW : Hid (Pairs wr J.ga J.m G) := HG.out.below (by rw [HX.out]; exact HPB.out)
   have hfb := fillS_range HV.out (decidedB es) (rankedL G) LS hleft.1 (fun x hx => by rw [HG.out.1]; exact HOM.out x hx)
   rw [HO.out.1] at hfb
   obtain ⟨F, hF⟩ : ∃ x, fillS G (decidedB es) LS (rankedL G) = x := ⟨_, rfl⟩
   obtain ⟨v0, hv0⟩ : ∃ x, valS G es = x := ⟨_, rfl⟩
   have hval := HVAL.out
   rw [hF] at hfb
   rw [hv0] at hval
   have HCALL : Hid (∀ wx, Below wr.heap.size wr wx → Calls Tryz.prog 39 #[.slice J.ga J.m J.d, .slice J.oa J.m J.oc, .func (.func 55) #[] #[.pointer (some ⟨bx, 0, none⟩)], .int .i64 LS] wx fun e w' => e = .returned (.int .i64 F) ∧ Below wx.heap.size wx w') := by
    intro wx hbx
    rw [← hF]
    exact fill_any 55 #[.pointer (some ⟨bx, 0, none⟩)] (decidedB es) J.ga J.oa J.m J.d J.m J.oc G (rankedL G) LS wx enter_out
     (fun x wy hby _ _ => out_any J wy R G es seen bx x (HM.out.below (hbx.trans (hby.mono hbx.size))) (Below.cell_of (hbx.trans (hby.mono hbx.size)) x0))
     hmm (HGW.out.below hbx) (HOW.out.below hbx) HV.out HOM.out hleft.1 (by omega)
   have HBO : Hid (boundOk R G es J.most = decide (v0 + F ≤ J.most)) := by
    show _ = _
    unfold boundOk
    rw [HLS.out, hF, hv0]
   have HMV : Hid (valS G es = v0) := hv0
   clear hF hv0 HSL HLS HHI HVAL HOM HOW HGW
   have e1 := HM.out.box.cell 1
   have e3 := HM.out.box.cell 3
   have e6 := HM.out.box.cell 6
   have e10 := HM.out.box.cell 10
   simp only [JA.cells, List.getElem?_toArray, List.getElem?_cons_zero, List.getElem?_cons_succ] at e1 e3 e6 e10
   rw [HMV.out] at e10
   have X0 := Lib.hid x0; have E1 := Lib.hid e1; have E3 := Lib.hid e3; have E6 := Lib.hid e6; have E10 := Lib.hid e10
   have hwr : IntKind.i64.wrap (v0 + F) = v0 + F := (i64_left _).trans (wrap64_in _ (by omega))
   clear e8
   go_upto_region 8 with fail
   go_region_held3 (fun w' => w'.cell? ⟨bx, 0, none⟩ = some (.pointer (some ⟨J.jb, 0, none⟩)) ∧ w'.cell? ⟨J.jb, 1, none⟩ = some (.slice J.ga J.m J.d) ∧ w'.cell? ⟨J.jb, 3, none⟩ = some (.int .i64 J.most) ∧ w'.cell? ⟨J.jb, 6, none⟩ = some (.slice J.oa J.m J.oc) ∧ w'.cell? ⟨J.jb, 10, none⟩ = some (.int .i64 v0)) (go_keep)
    (first
     | (go_at_call 39; refine (HCALL.out _ ((Below.refl _ _).drew)).mono ?_; rintro e w7 ⟨rfl, hb7⟩; have hB1 : Below wr.heap.size wr w7 := ((Below.refl _ _).drew).trans hb7; have y0 := Below.cell_of hB1 X0.out; have y1 := Below.cell_of hB1 E1.out; have y2 := Below.cell_of hB1 E3.out; have y3 := Below.cell_of hB1 E6.out; have y4 := Below.cell_of hB1 E10.out))
   go_wp2
   go_ret
   exact ⟨by rw [HBO.out]; rfl, by rw [HX.out]; exact HPB.out.trans (hB1.mono (by omega))⟩
end Go.Proofs.YthabgljdndbphaaGreatDoor
