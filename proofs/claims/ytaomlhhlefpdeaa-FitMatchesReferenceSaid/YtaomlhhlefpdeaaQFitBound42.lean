/- The judge's bound: a step of kind 'bound'. -/
import Derived.Test.YtaomlhhlefpdeaaQFitBound40
import Derived.Deep.RegionHeld3

namespace Go.Proofs.Ytaomlhhlefpdeaa
open Go.RowKit Go.IntWalk

theorem left_take : ∀ (L : List Int) (i : Nat), i < L.length → leftS (L.take (i + 1)) = leftS (L.take i) + max (ix L i) 0 := by
  intro L
  induction L with
  | nil => intro i hi; simp at hi
  | cons x L ih =>
    intro i hi
    cases i with
    | zero => simp [leftS, ix]
    | succ i =>
      have := ih i (by simpa using hi)
      have e : ix (x :: L) (i + 1) = ix L i := by simp [ix, List.getD]
      rw [e, List.take_succ_cons, List.take_succ_cons]
      have h1 : ∀ M : List Int, leftS (x :: M) = max x 0 + leftS M := fun M => rfl
      rw [h1, h1, this]; omega

theorem left_le : ∀ (L R : List Int), L.length = R.length → (∀ r, r < R.length → ix L r ≤ ix R r ∧ 0 ≤ ix R r) → 0 ≤ leftS L ∧ leftS L ≤ R.sum := by
  intro L
  induction L with
  | nil =>
    intro R hl _
    obtain rfl : R = [] := List.eq_nil_of_length_eq_zero (by simpa using hl.symm)
    simp [leftS]
  | cons x L ih =>
    intro R hl h
    cases R with
    | nil => simp at hl
    | cons y R =>
      have h0 := h 0 (by simp)
      have i := ih R (by simpa using hl) (fun r hr => by
        have := h (r + 1) (by simpa using hr)
        have e1 : ix (x :: L) (r + 1) = ix L r := by simp [ix, List.getD]
        have e2 : ix (y :: R) (r + 1) = ix R r := by simp [ix, List.getD]
        rw [e1, e2] at this; exact this)
      have e1 : ix (x :: L) 0 = x := rfl
      have e2 : ix (y :: R) 0 = y := rfl
      rw [e1, e2] at h0
      have h1 : leftS (x :: L) = max x 0 + leftS L := rfl
      rw [h1, List.sum_cons]; omega

set_option maxRecDepth 10000 in
set_option maxHeartbeats 800000 in
theorem out_any (J : JA) (w : World) (R : List Int) (G es : List (Int × Int)) (seen : List Bool) (bx : Nat) (x : Int) (hm : JMem w J R G es seen) (hb : w.cell? ⟨bx, 0, none⟩ = some (.pointer (some ⟨J.jb, 0, none⟩))) :
    Calls Try.prog 73 (#[.int .i64 x] ++ #[.pointer (some ⟨bx, 0, none⟩)]) w fun e w' => e = .returned (.bool (decidedB es x)) ∧ Below w.heap.size w w' := by
  have hlk := lookup_run hm.map x true
  have b7 := hm.box.cell 7
  simp only [JA.cells, List.getElem?_toArray, List.getElem?_cons_zero, List.getElem?_cons_succ] at b7
  simp only [if_true] at hlk
  change (Instr.lookup 76 (.map (some J.mb)) (.int .i64 x) true).run Try.prog w = .ok (.tuple #[_, .bool (decidedB es x)]) w at hlk
  generalize decidedB es x = q at *
  generalize (Option.map Prod.snd (findI x es 0)).getD 0 = z at *
  clear hm
  go_enter Try.func73, Try.ntmps73
  go_wp2_with fail
  go_ret
  exact ⟨rfl, Below.refl _ _⟩

theorem enter_out (args : Array Value) (w : World) : (callFunc 73 args).run Try.prog w = .ok (.enter 73 args) w := by
  kernel_rfl

theorem fillS_range {G : List (Int × Int)} (hv : ValuesOk G) (p : Int → Bool) : ∀ (O : List Int) (n : Int), 0 ≤ n → (∀ x ∈ O, 0 ≤ x ∧ x < G.length) → 0 ≤ fillS G p n O ∧ fillS G p n O ≤ 12000000 * O.length := by
  intro O
  induction O with
  | nil => intro n _ _; simp [fillS]
  | cons x O ih =>
    intro n hn h
    have hx := h x (by simp)
    have hg := hv x.toNat (by omega)
    have hr : ∀ y ∈ O, 0 ≤ y ∧ y < G.length := fun y hy => h y (by simp [hy])
    rw [fillS, List.length_cons]
    split
    · have := ih n hn hr; omega
    · have i := ih (n - min (gs G x.toNat) n) (by omega) hr
      have h0 : 0 ≤ min (gs G x.toNat) n * gv G x.toNat := Int.mul_nonneg (by omega) (by omega)
      have h1 : min (gs G x.toNat) n * gv G x.toNat ≤ 12 * gv G x.toNat := Int.mul_le_mul_of_nonneg_right (by omega) hg.2.1
      omega

set_option maxRecDepth 10000 in
set_option maxHeartbeats 1600000 in
theorem jbound_any (J : JA) (w0 w : World) (R : List Int) (G es : List (Int × Int)) (seen : List Bool) (t : Int)
    (hm : JMem w J R G es seen) (hb : Below w0.heap.size w0 w) (hG : Pairs w0 J.ga J.m G) (hO : Ints w J.oa J.m (rankedL G)) (hv : ValuesOk G) (hR : R.length = J.n) (hRb : ∀ r, r < J.n → 1 ≤ ix R r ∧ ix R r ≤ 4000) (hsum : R.sum ≤ 4000)
    (hes : EsOk J.n J.m es) (hn : J.n ≤ 4000) (hmm : J.m ≤ 4000) (hl : es.length ≤ 100000) :
    Calls Try.prog 56 #[.pointer (some ⟨J.jb, 0, none⟩), .int .i64 t] w fun e w' => e = .returned (.bool (boundOk R G es J.most)) ∧ Below w.heap.size w w' := by
  have HRB := Lib.hid (roomS_bounds hv hG.1 (fun r => ix R r) es R (fun r => ix R r) hes hR (fun r hr => ⟨Int.le_refl _, Int.le_refl _⟩))
  have HVAL : Hid (0 ≤ valS G es ∧ valS G es ≤ 0 + 12000000 * es.length) := valS_bounds hv hG.1 es 0 hes (Int.le_refl _)
  have HLR : Hid ((roomS R G es).length = J.n) := HRB.out.1
  have hleft := left_le (roomS R G es) R (by rw [HLR.out, hR]) (fun r hr => ⟨(HRB.out.2 r (by omega)).2, by have := hRb r (by omega); omega⟩)
  have HHI : Hid (∀ r, r < J.n → ix (roomS R G es) r ≤ 4000 ∧ -1200000 ≤ ix (roomS R G es) r) := fun r hr => by
    have h1 : ix R r - 12 * es.length ≤ ix (roomS R G es) r ∧ ix (roomS R G es) r ≤ ix R r := HRB.out.2 r hr
    have := hRb r hr; omega
  have hpb : Below w.heap.size w (w.alloc (.cells #[.pointer (some ⟨J.jb, 0, none⟩)] 75)) := (Below.refl _ _).alloc (Nat.le_refl _) _
  have HM := Lib.hid (hm.below hpb)
  have HG := Lib.hid (hG.below hb); have HO := Lib.hid hO; have HV := Lib.hid hv
  have HOM : Hid (∀ x ∈ rankedL G, 0 ≤ x ∧ x < J.m) := fun x hx => by rw [← hG.1]; exact (mem_idx _ x).1 ((rankedL_ok G).1.mem_iff.1 hx)
  have HBX : Hid (Box (w.alloc (.cells #[.pointer (some ⟨J.jb, 0, none⟩)] 75)) w.heap.size 75 #[.pointer (some ⟨J.jb, 0, none⟩)]) := Box.new rfl
  have HPB := Lib.hid hpb
  have hwz : w.heap.size < (w.alloc (.cells #[.pointer (some ⟨J.jb, 0, none⟩)] 75)).heap.size := by simp
  clear hm hb hG hO hv hRb hes HRB hpb
  obtain ⟨LS, hLS⟩ : ∃ x, leftS (roomS R G es) = x := ⟨_, rfl⟩
  have HLS := Lib.hid hLS
  rw [hLS] at hleft
  clear hLS
  go_enter Try.func56, Try.ntmps56
  go_upto_region 1 with fail
  generalize (w.alloc (.cells #[.pointer (some ⟨J.jb, 0, none⟩)] 75)) = w1 at *
  generalize hbx : w.heap.size = bx at *
  have x0 := HBX.out.cell 0
  have e8 := HM.out.box.cell 8
  simp only [JA.cells, List.getElem?_toArray, List.getElem?_cons_zero, List.getElem?_cons_succ] at x0 e8
  have HX := Lib.hid hbx
  clear hbx
  go_wp2_with fail
  go_loopw [5, 7, 14] (fun v5 _ v14 wr => ∃ (i : Nat) (s : Int), v14 = .int .i64 i ∧ i ≤ J.n ∧ v5 = .int .i64 s ∧ 0 ≤ s ∧ s ≤ 4000 * i ∧ Hid (s = leftS ((roomS R G es).take i)) ∧ wr = w1) (fun _ _ v14 _ => J.n - (intOf v14).toNat)
  case atStart => exact ⟨0, 0, rfl, Nat.zero_le _, rfl, by omega, by omega, rfl, rfl⟩
  case round =>
    obtain ⟨i, s, rfl, hi, rfl, hs0, hs1, HS, rfl⟩ := hrel
    by_cases hlt : i < J.n
    · obtain ⟨hla, hrow⟩ := HM.out.room (by omega)
      have rr := hrow.cell i (by rw [HLR.out]; exact hlt)
      have hi2 := HHI.out i hlt
      have HT := Lib.hid (left_take (roomS R G es) i (by rw [HLR.out]; exact hlt))
      rw [← HS.out] at HT
      obtain ⟨a, ha⟩ : ∃ x, ix (roomS R G es) i = x := ⟨_, rfl⟩
      rw [ha] at rr hi2 HT
      clear ha hrow
      by_cases ha0 : a < 0
      · have HT2 : Hid (s = leftS ((roomS R G es).take (i + 1))) := by
          have := HT.out
          show _ = _
          omega
        go_wp2_with fail
        go_roundw
        case rel => exact ⟨i + 1, s, by go_num, by omega, rfl, by omega, by omega, HT2, trivial⟩
        case measure => simp [intOf]; omega
      · have HT2 : Hid (s + a = leftS ((roomS R G es).take (i + 1))) := by
          have := HT.out
          show _ = _
          omega
        go_wp2_with fail
        go_roundw
        case rel => exact ⟨i + 1, s + a, by go_num, by omega, rfl, by omega, by omega, HT2, trivial⟩
        case measure => simp [intOf]; omega
    · have HSL : Hid (s = LS) := by
        have := HS.out
        rw [List.take_of_length_le (by rw [HLR.out]; omega), HLS.out] at this
        exact this
      clear HS
      rw [HSL.out] at *
      have HOW : Hid (Ints wr J.oa J.m (rankedL G)) := HO.out.below (by rw [HX.out]; exact HPB.out)
      have HGW : Hid (Pairs wr J.ga J.m G) := HG.out.below (by rw [HX.out]; exact HPB.out)
      have hfb := fillS_range HV.out (decidedB es) (rankedL G) LS hleft.1 (fun x hx => by rw [HG.out.1]; exact HOM.out x hx)
      rw [HO.out.1] at hfb
      obtain ⟨F, hF⟩ : ∃ x, fillS G (decidedB es) LS (rankedL G) = x := ⟨_, rfl⟩
      obtain ⟨v0, hv0⟩ : ∃ x, valS G es = x := ⟨_, rfl⟩
      have hval := HVAL.out
      rw [hF] at hfb
      rw [hv0] at hval
      have HCALL : Hid (∀ wx, Below wr.heap.size wr wx → Calls Try.prog 46 #[.slice J.ga J.m J.d, .slice J.oa J.m J.oc, .func (.func 73) #[] #[.pointer (some ⟨bx, 0, none⟩)], .int .i64 LS] wx fun e w' => e = .returned (.int .i64 F) ∧ Below wx.heap.size wx w') := by
        intro wx hbx
        rw [← hF]
        exact fill_any 73 #[.pointer (some ⟨bx, 0, none⟩)] (decidedB es) J.ga J.oa J.m J.d J.m J.oc G (rankedL G) LS wx enter_out
          (fun x wy hby _ _ => out_any J wy R G es seen bx x (HM.out.below (hbx.trans (hby.mono hbx.size))) (Below.cell_of (hbx.trans (hby.mono hbx.size)) x0))
          hmm (HGW.out.below hbx) (HOW.out.below hbx) HV.out HOM.out hleft.1 (by omega)
      have HBO : Hid (boundOk R G es J.most = decide (v0 + F ≤ J.most)) := by
        show _ = _
        unfold boundOk
        rw [HLS.out, hF, hv0]
      have HMV : Hid (valS G es = v0) := hv0
      clear hF hv0 HSL HLS HHI HVAL HOM HOW HGW
      have e1 := HM.out.box.cell 1
      have e3 := HM.out.box.cell 3
      have e6 := HM.out.box.cell 6
      have e10 := HM.out.box.cell 10
      simp only [JA.cells, List.getElem?_toArray, List.getElem?_cons_zero, List.getElem?_cons_succ] at e1 e3 e6 e10
      rw [HMV.out] at e10
      have X0 := Lib.hid x0; have E1 := Lib.hid e1; have E3 := Lib.hid e3; have E6 := Lib.hid e6; have E10 := Lib.hid e10
      have hwr : IntKind.i64.wrap (v0 + F) = v0 + F := (i64_left _).trans (wrap64_in _ (by omega))
      clear e8
      go_upto_region 8 with fail
      go_region_held3 (fun w' => w'.cell? ⟨bx, 0, none⟩ = some (.pointer (some ⟨J.jb, 0, none⟩)) ∧ w'.cell? ⟨J.jb, 1, none⟩ = some (.slice J.ga J.m J.d) ∧ w'.cell? ⟨J.jb, 3, none⟩ = some (.int .i64 J.most) ∧ w'.cell? ⟨J.jb, 6, none⟩ = some (.slice J.oa J.m J.oc) ∧ w'.cell? ⟨J.jb, 10, none⟩ = some (.int .i64 v0)) (go_keep)
        (first
          | (go_at_call 46; refine (HCALL.out _ ((Below.refl _ _).drew)).mono ?_; rintro e w7 ⟨rfl, hb7⟩; have hB1 : Below wr.heap.size wr w7 := ((Below.refl _ _).drew).trans hb7; have y0 := Below.cell_of hB1 X0.out; have y1 := Below.cell_of hB1 E1.out; have y2 := Below.cell_of hB1 E3.out; have y3 := Below.cell_of hB1 E6.out; have y4 := Below.cell_of hB1 E10.out))
      go_wp2
      go_ret
      exact ⟨by rw [HBO.out]; rfl, by rw [HX.out]; exact HPB.out.trans (hB1.mono (by omega))⟩
end Go.Proofs.Ytaomlhhlefpdeaa
