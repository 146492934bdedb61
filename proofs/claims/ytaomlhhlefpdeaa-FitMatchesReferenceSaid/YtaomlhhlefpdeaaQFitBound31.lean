/- foyerref22.prove: the walk. -/
import Derived.Test.YtaomlhhlefpdeaaQFitBound30

namespace Go.Proofs.Ytaomlhhlefpdeaa
open Go.RowKit Go.IntWalk

theorem OwnInts.gr {w w' : World} {B n : Nat} {la : Option Addr} {L : List Int} {C : Nat} {v : Value} {T : List StepT} {K : List Value} (h : OwnInts w C la n L) (hg : w.grownBy w' v.ownBlock) (hs : SO w B v T K) : OwnInts w' C la n L := by
  refine ⟨h.1, fun h0 => ?_⟩
  obtain ⟨g, rfl, hC, arr, h1, h2⟩ := h.2 h0
  refine ⟨g, rfl, hC, arr, ?_, h2⟩
  rw [hg.block g (lt_of_block h1) (fun e => ?_)]
  · exact h1
  · rcases hs.own.2 with ⟨rfl, _⟩ | ⟨b', cap, cur, rfl, _, hgg, _⟩
    · simp [Value.ownBlock] at e
    · simp [Value.ownBlock] at e; subst e; rw [hgg] at h1; simp at h1

theorem Box.gr {w w' : World} {B b : Nat} {t : TypeId} {vs : Array Value} {v : Value} {T : List StepT} {K : List Value} (h : Box w b t vs) (hg : w.grownBy w' v.ownBlock) (hs : SO w B v T K) (ht : t ≠ 51) : Box w' b t vs := by
  refine h.of_heap (hg.block b (lt_of_block h) (fun e => ?_))
  unfold Box at h
  rcases hs.own.2 with ⟨rfl, _⟩ | ⟨b', cap, cur, rfl, _, hgg, _⟩
  · simp [Value.ownBlock] at e
  · simp [Value.ownBlock] at e; subst e; rw [hgg] at h; simp at h; exact ht h.2.symm

theorem Below.gr {a w w' : World} {B : Nat} {v : Value} {T : List StepT} {K : List Value} (h : Below B a w) (hB : B ≤ w.heap.size) (hg : w.grownBy w' v.ownBlock) (hs : SO w B v T K) : Below B a w' :=
  ⟨hg.os.trans h.os, hg.tape.trans h.tape, hg.output.trans h.output, Nat.le_trans h.size hg.size, fun i hi => (hg.block i (Nat.lt_of_lt_of_le hi hB) (fun e => by have := (hs.own.lt i e.symm).1; omega)).trans (h.block i hi)⟩

/-- A choice: a run, or none. -/
def chV (r n : Nat) : Int := if r = n then -1 else (r : Int)

/-- What prove leaves. -/
def ProvePost (ra ga wa ha : Option Addr) (n c m d wq hl hc : Nat) (single : Bool) (V : Int) (w : World) (B : Nat) (v : Value) (T0 : List StepT) (K0 : List Value) (P : List StepT) (e : Ending) (w' : World) : Prop :=
  ∃ sa' sc' K', e = .returned (.tuple #[workV ra ga sa' wa ha n c m d (T0 ++ P).length sc' m wq hl hc single V, .int .i64 (T0.length : Nat)]) ∧ SO w' B (.slice sa' (T0 ++ P).length sc') (T0 ++ P) (K0 ++ K') ∧
    (∀ x ∈ K', ∀ b, x.ownBlock = some b → w.heap.size ≤ b) ∧ Gr w w' v (.slice sa' (T0 ++ P).length sc')

set_option maxRecDepth 20000 in
set_option maxHeartbeats 6400000 in
theorem prove_any (ra ga ha : Option Addr) (n c m d hl hc : Nat) (single : Bool) (V : Int) (R : List Int) (G : List (Int × Int)) (w0 : World) (hn : n ≤ 4) (hm : m ≤ 4) (hR : Ints w0 ra n R) (hG : Pairs w0 ga m G) (hv : ValuesOk G) (hRb : ∀ r, r < n → 0 ≤ ix R r ∧ ix R r ≤ 4000) (k : Nat) :
    ∀ (g : Nat) (W : List Int) (wa : Option Addr) (wq : Nat) (sa : Option Addr) (sc : Nat) (T0 : List StepT) (K0 : List Value) (w : World), g + k = m → Below w0.heap.size w0 w → OwnInts w 0 wa m W → (∀ q, q < m → ix W q < n) →
    SO w w0.heap.size (.slice sa T0.length sc) T0 K0 → T0.length + prvCap k ≤ 100000 →
    Calls Try.prog 61 #[workV ra ga sa wa ha n c m d T0.length sc m wq hl hc single V, .int .i64 g] w (ProvePost ra ga wa ha n c m d wq hl hc single V w w0.heap.size (.slice sa T0.length sc) T0 K0 (prvF single R G k W T0.length)) := by
  have HR := Lib.hid hR; have HG := Lib.hid hG; have HV := Lib.hid hv; have HRB := Lib.hid hRb
  have HRL := Lib.hid hR.1; have HGL := Lib.hid hG.1
  clear hR hG hv hRb
  induction k using Nat.strongRecOn with
  | ind k ih =>
    intro g W wa wq sa sc T0 K0 w hg hb hW hWb hS hcap
    have hB0 : w0.heap.size ≤ w.heap.size := hb.size
    have hb0 : Below w.heap.size w ((w.alloc (.cells #[.slice ra n c, .slice ga m d, .bool single, .int .i64 V, .slice sa T0.length sc, .slice wa m wq, .slice ha hl hc] 82)).alloc (.cells #[.slice none 0 0, .slice none 0 0, .bool false, .int .i64 0, .slice none 0 0, .slice none 0 0, .slice none 0 0] 82)) :=
      ((Below.refl _ _).alloc (Nat.le_refl _) _).alloc (by simp) _
    have HBX0 : Hid (Box ((w.alloc (.cells #[.slice ra n c, .slice ga m d, .bool single, .int .i64 V, .slice sa T0.length sc, .slice wa m wq, .slice ha hl hc] 82)).alloc (.cells #[.slice none 0 0, .slice none 0 0, .bool false, .int .i64 0, .slice none 0 0, .slice none 0 0, .slice none 0 0] 82)) w.heap.size 82 #[.slice ra n c, .slice ga m d, .bool single, .int .i64 V, .slice sa T0.length sc, .slice wa m wq, .slice ha hl hc] ∧
      Box ((w.alloc (.cells #[.slice ra n c, .slice ga m d, .bool single, .int .i64 V, .slice sa T0.length sc, .slice wa m wq, .slice ha hl hc] 82)).alloc (.cells #[.slice none 0 0, .slice none 0 0, .bool false, .int .i64 0, .slice none 0 0, .slice none 0 0, .slice none 0 0] 82)) (w.heap.size + 1) 82 #[.slice none 0 0, .slice none 0 0, .bool false, .int .i64 0, .slice none 0 0, .slice none 0 0, .slice none 0 0]) :=
      ⟨(Box.new rfl).alloc _, Box.new (by simp)⟩
    have HB := Lib.hid hb; have HW := Lib.hid hW; have HWB := Lib.hid hWb; have HS := Lib.hid hS; have HIH := Lib.hid ih
    have HGK := Lib.hid hg
    have hgm : g ≤ m := by omega
    have hc1 : 1 ≤ prvCap k := by cases k <;> simp [prvCap]
    obtain ⟨last, hlast⟩ : ∃ b, decide (k = 0) = b := ⟨_, rfl⟩
    have t1 : ((g : Int) == (m : Int)) = last := by
      rw [← hlast]
      by_cases h : k = 0
      · have h2 : g = m := by omega
        simp [h, h2]
      · have h2 : ¬ g = m := by omega
        simp [h]; omega
    have HLAST := Lib.hid hlast
    have hT0 : T0.length ≤ 100000 := by omega
    have HCAP := Lib.hid hcap
    clear hg hb hW hWb hS ih hcap hlast hc1
    unfold workV
    go_enter Try.func61, Try.ntmps61
    go_upto_region 1 with fail
    generalize ((w.alloc (.cells #[.slice ra n c, .slice ga m d, .bool single, .int .i64 V, .slice sa T0.length sc, .slice wa m wq, .slice ha hl hc] 82)).alloc (.cells #[.slice none 0 0, .slice none 0 0, .bool false, .int .i64 0, .slice none 0 0, .slice none 0 0, .slice none 0 0] 82)) = w1 at *
    have x0 := HBX0.out.1.cell 0
    have x1 := HBX0.out.1.cell 1
    have x2 := HBX0.out.1.cell 2
    have x3 := HBX0.out.1.cell 3
    have x4 := HBX0.out.1.cell 4
    have x5 := HBX0.out.1.cell 5
    have x6 := HBX0.out.1.cell 6
    simp only [List.getElem?_toArray, List.getElem?_cons_zero, List.getElem?_cons_succ] at x0 x1 x2 x3 x4 x5 x6
    have HR1 : Hid (Ints w1 ra n R ∧ Pairs w1 ga m G) := ⟨HR.out.below (HB.out.trans (hb0.mono hB0)), HG.out.below (HB.out.trans (hb0.mono hB0))⟩
    go_wp2_with fail
    refine (rooms_any ra ga sa wa ha n c m d T0.length sc wq hl hc single V R W G w1 (Nat.le_trans hn (by decide)) (Nat.le_trans hm (by decide)) HR1.out.1 HR1.out.2 (HW.out.ints.below hb0) HV.out HRB.out HWB.out).mono ?_
    rintro e w2 ⟨la, lc, rfl, hb2, hol⟩
    have HB2 := Lib.hid hb2; have HOL := Lib.hid hol
    clear x0 x1 x2 x3 x4 x5 x6 hb2 hol
    have hsz1 : w.heap.size + 1 < w1.heap.size := lt_of_block HBX0.out.2
    have HBW2 := Lib.hid (hb0.trans (HB2.out.mono hb0.size))
    have HBX2 := Lib.hid ((⟨HBX0.out.1.below HB2.out, HBX0.out.2.below HB2.out⟩ : _ ∧ _))
    clear HBX0 hb0 HR1
    have HL2 : Hid (Ints w2 la n (roomsL R G W m)) := HOL.out.ints
    go_wp2_with fail
    go_loopw [8] (fun v8 wr => ∃ i : Nat, v8 = .int .i64 i ∧ i ≤ n ∧ Hid (∀ q, q < i → badRun2 single last R (roomsL R G W m) q = false) ∧ Hid (Below w2.heap.size w2 wr)) (fun v8 _ => n - (intOf v8).toNat)
    case atStart => exact ⟨0, rfl, Nat.zero_le _, fun q hq => absurd hq (Nat.not_lt_zero _), Below.refl _ _⟩
    case round =>
      obtain ⟨i, rfl, hi, HNO, HBR⟩ := hrel
      by_cases hlt : i < n
      · obtain ⟨lb, lo, rfl, c1⟩ := (HL2.out.below HBR.out).2 i hlt
        obtain ⟨rb, ro, rfl, c2⟩ := (HR.out.below (HB.out.trans ((HBW2.out.trans (HBR.out.mono HBW2.out.size)).mono hB0))).2 i hlt
        obtain ⟨x, hx⟩ : ∃ x, ix (roomsL R G W m) i = x := ⟨_, rfl⟩
        obtain ⟨y, hy⟩ : ∃ y, ix R i = y := ⟨_, rfl⟩
        rw [hx] at c1; rw [hy] at c2
        have HBAD : Hid (badRun2 single last R (roomsL R G W m) i = (decide (x < 0) || (single && last && decide (x = 1) && decide (x < y)))) := by show _ = _; unfold badRun2; rw [hx, hy]
        clear hx hy
        have x0 := (HBX2.out.1.below HBR.out).cell 0
        have x2 := (HBX2.out.1.below HBR.out).cell 2
        have x5 := (HBX2.out.1.below HBR.out).cell 5
        simp only [List.getElem?_toArray, List.getElem?_cons_zero, List.getElem?_cons_succ] at x0 x2 x5
        obtain ⟨bad, hbad⟩ : ∃ b, (decide (x < 0) || (single && last && decide (x = 1) && decide (x < y))) = b := ⟨_, rfl⟩
        rw [hbad] at HBAD
        have HBB := Lib.hid hbad
        clear hbad
        go_upto_region 6 with fail
        go_cut [60] (fun v60 wx => v60 = .bool bad ∧ Hid (Below wr.heap.size wr wx))
        case first =>
          have hbb := HBB.out
          by_cases hx0 : x < 0
          · have e1 : decide (x < 0) = true := by simp; exact hx0
            rw [e1, Bool.true_or] at hbb
            subst hbb
            go_quiet (fail)
            go_wp2_with fail
            go_meet
            case rel => exact ⟨rfl, below_drewN (Below.refl _ _) _⟩
          · have e1 : decide (x < 0) = false := by simp; omega
            rw [e1, Bool.false_or] at hbb
            cases single
            · simp only [Bool.false_and] at hbb
              subst hbb
              go_quiet (fail)
              go_wp2_with fail
              go_meet
              case rel => exact ⟨rfl, below_drewN (Below.refl _ _) _⟩
            · cases last
              · simp only [Bool.and_false, Bool.false_and] at hbb
                subst hbb
                go_quiet (fail)
                go_wp2_with fail
                go_meet
                case rel => exact ⟨rfl, below_drewN (Below.refl _ _) _⟩
              · by_cases h1 : x = 1
                · have e3 : (x == 1) = true := by simp; exact h1
                  have e3' : decide (x = 1) = true := by simp; exact h1
                  rw [e3'] at hbb
                  simp only [Bool.and_self, Bool.true_and] at hbb
                  have HX1 := Lib.hid h1
                  clear h1 e3'
                  go_quiet (fail)
                  go_wp2_with fail
                  go_meet
                  case rel => exact ⟨by rw [← hbb], below_drewN (Below.refl _ _) _⟩
                · have e3 : (x == 1) = false := by simp; exact h1
                  have e3' : decide (x = 1) = false := by simp; exact h1
                  rw [e3'] at hbb
                  simp only [Bool.and_false, Bool.false_and] at hbb
                  subst hbb
                  clear h1 e3'
                  go_quiet (fail)
                  go_wp2_with fail
                  go_meet
                  case rel => exact ⟨rfl, below_drewN (Below.refl _ _) _⟩
        case rest =>
          obtain ⟨rfl, HC⟩ := hcut
          clear c1 c2 x0 x2 x5 HBB
          cases bad
          · have HNO2 : Hid (∀ q, q < i + 1 → badRun2 single last R (roomsL R G W m) q = false) := fun q hq => by
              by_cases e : q = i
              · rw [e]; exact HBAD.out
              · exact HNO.out q (by omega)
            go_wp2_with fail
            go_roundw
            case rel => exact ⟨i + 1, by go_num, by omega, HNO2, HBR.out.trans (HC.out.mono HBR.out.size)⟩
            case measure => simp [intOf]; omega
          · have HBC := Lib.hid (HBR.out.trans (HC.out.mono HBR.out.size))
            have HBWC := Lib.hid (HBW2.out.trans (HBC.out.mono HBW2.out.size))
            have HBXC := Lib.hid ((⟨HBX2.out.1.below HBC.out, HBX2.out.2.below HBC.out⟩ : _ ∧ _))
            obtain ⟨v', w5, hcp, hs5, hgr⟩ := push_step (HS.out.below HBWC.out) (Nat.le_trans hB0 HBWC.out.size) hT0 3 (i : Int)
            obtain ⟨sa', sc', rfl⟩ := hs5.shape
            have HCP := Lib.hid hcp; have HS5 := Lib.hid hs5; have HGR := Lib.hid hgr
            have x4 := HBXC.out.1.cell 4
            simp only [List.getElem?_toArray, List.getElem?_cons_zero, List.getElem?_cons_succ] at x4
            clear hcp hs5 hgr
            have HBX5 := Lib.hid ((⟨HBXC.out.1.gr HGR.out.1 (HS.out.below HBWC.out) (by decide), HBXC.out.2.gr HGR.out.1 (HS.out.below HBWC.out) (by decide)⟩ : _ ∧ _))
            have y4 := HBX5.out.1.cell 4
            have f4 := HBX5.out.1.free 4
            simp only [List.getElem?_toArray, List.getElem?_cons_zero, List.getElem?_cons_succ] at y4
            go_upto_region 8 with (at_builtin; refine wpList_run_append rfl _ _ 44 rfl 44 rfl HCP.out rfl rfl ?_)
            have HBX6 : Hid (Box (w5.setCell ⟨w.heap.size, 4, none⟩ (.slice sa' (T0.length + 1) sc')) w.heap.size 82 #[.slice (some ⟨rb, ro, none⟩) n c, .slice ga m d, .bool single, .int .i64 V, .slice sa' (T0.length + 1) sc', .slice wa m wq, .slice ha hl hc] ∧
                Box (w5.setCell ⟨w.heap.size, 4, none⟩ (.slice sa' (T0.length + 1) sc')) (w.heap.size + 1) 82 #[.slice none 0 0, .slice none 0 0, .bool false, .int .i64 0, .slice none 0 0, .slice none 0 0, .slice none 0 0]) :=
              ⟨HBX5.out.1.set 4 _, HBX5.out.2.of_heap (heap_set _ (by omega))⟩
            have HS6 : Hid (SO (w5.setCell ⟨w.heap.size, 4, none⟩ (.slice sa' (T0.length + 1) sc')) w0.heap.size (.slice sa' (T0 ++ [(⟨3, (i : Int), []⟩ : StepT)]).length sc') (T0 ++ [(⟨3, (i : Int), []⟩ : StepT)]) (K0 ++ [.slice none 0 0])) := HS5.out.setBox HBX5.out.1 _ (by decide)
            have HG6 : Hid (Gr w (w5.setCell ⟨w.heap.size, 4, none⟩ (.slice sa' (T0.length + 1) sc')) (.slice sa T0.length sc) (.slice sa' (T0 ++ [(⟨3, (i : Int), []⟩ : StepT)]).length sc')) := ((Gr.below HBWC.out _).trans HGR.out).set (Nat.le_refl _) _
            generalize (w5.setCell ⟨w.heap.size, 4, none⟩ (.slice sa' (T0.length + 1) sc')) = w6 at *
            clear x4 y4 f4 HBX5 HGR HS5 HCP HBXC
            have x0 := HBX6.out.1.cell 0
            have x1 := HBX6.out.1.cell 1
            have x2 := HBX6.out.1.cell 2
            have x3 := HBX6.out.1.cell 3
            have x4 := HBX6.out.1.cell 4
            have x5 := HBX6.out.1.cell 5
            have x6 := HBX6.out.1.cell 6
            have z0 := HBX6.out.2.cell 0
            have z1 := HBX6.out.2.cell 1
            have z2 := HBX6.out.2.cell 2
            have z3 := HBX6.out.2.cell 3
            have z4 := HBX6.out.2.cell 4
            have z5 := HBX6.out.2.cell 5
            have z6 := HBX6.out.2.cell 6
            have zf := fun j => HBX6.out.2.free j
            simp only [List.getElem?_toArray, List.getElem?_cons_zero, List.getElem?_cons_succ] at x0 x1 x2 x3 x4 x5 x6 z0 z1 z2 z3 z4 z5 z6
            go_wp2_with fail
            have HFB : Hid (prvF single R G k W T0.length = [⟨3, (i : Int), []⟩]) := by
              show _ = _
              refine prvF_bad k _ ?_
              rw [HLAST.out, HRL.out, HGL.out]
              exact firstBad_at _ i n HNO.out hlt HBAD.out
            refine bodyPost_ret (v := .tuple #[.agg #[.slice (some ⟨rb, ro, none⟩) n c, .slice ga m d, .bool single, .int .i64 V, .slice sa' (T0.length + 1) sc', .slice wa m wq, .slice ha hl hc], .int .i64 (T0.length : Nat)]) (by simp [results, Try.results61, go_sem, z0, z1, z2, z3, z4, z5, z6]) rfl ?_
            rw [HFB.out]
            exact ⟨sa', sc', [.slice none 0 0], by simp [workV], HS6.out.set7 HBX6.out.2 (by decide) _ _ _ _ _ _ _, fun x hx b hb => by simp at hx; subst hx; simp [Value.ownBlock] at hb, HG6.out.set7 (by omega) _ _ _ _ _ _ _⟩
      · obtain rfl : i = n := by omega
        have HNONE : Hid (firstBad (badRun2 single (decide (k = 0)) R (roomsL R G W G.length)) 0 R.length = none) := by
          show _ = _
          rw [HLAST.out, HRL.out, HGL.out]
          exact firstBad_none _ _ HNO.out
        have HBC := HBR
        have HBWC := Lib.hid (HBW2.out.trans (HBC.out.mono HBW2.out.size))
        have HBXC := Lib.hid ((⟨HBX2.out.1.below HBC.out, HBX2.out.2.below HBC.out⟩ : _ ∧ _))
        have x5c := HBXC.out.1.cell 5
        simp only [List.getElem?_toArray, List.getElem?_cons_zero, List.getElem?_cons_succ] at x5c
        clear HNO
        cases last
        · obtain ⟨k, rfl⟩ : ∃ k', k = k' + 1 := ⟨k - 1, by have := HLAST.out; simp at this; omega⟩
          obtain ⟨v', w5, hcp, hs5, hgr⟩ := push_step (HS.out.below HBWC.out) (Nat.le_trans hB0 HBWC.out.size) hT0 1 (g : Int)
          obtain ⟨sa', sc', rfl⟩ := hs5.shape
          have HCP := Lib.hid hcp; have HS5 := Lib.hid hs5; have HGR := Lib.hid hgr
          have x4 := HBXC.out.1.cell 4
          simp only [List.getElem?_toArray, List.getElem?_cons_zero, List.getElem?_cons_succ] at x4
          clear hcp hs5 hgr
          have HBX5 := Lib.hid ((⟨HBXC.out.1.gr HGR.out.1 (HS.out.below HBWC.out) (by decide), HBXC.out.2.gr HGR.out.1 (HS.out.below HBWC.out) (by decide)⟩ : _ ∧ _))
          have y4 := HBX5.out.1.cell 4
          have f4 := HBX5.out.1.free 4
          simp only [List.getElem?_toArray, List.getElem?_cons_zero, List.getElem?_cons_succ] at y4
          go_upto_region 13 with (at_builtin; refine wpList_run_append rfl _ _ 44 rfl 44 rfl HCP.out rfl rfl ?_)
          have HBX6 : Hid (Box (w5.setCell ⟨w.heap.size, 4, none⟩ (.slice sa' (T0.length + 1) sc')) w.heap.size 82 #[.slice ra i c, .slice ga m d, .bool single, .int .i64 V, .slice sa' (T0.length + 1) sc', .slice wa m wq, .slice ha hl hc] ∧
              Box (w5.setCell ⟨w.heap.size, 4, none⟩ (.slice sa' (T0.length + 1) sc')) (w.heap.size + 1) 82 #[.slice none 0 0, .slice none 0 0, .bool false, .int .i64 0, .slice none 0 0, .slice none 0 0, .slice none 0 0]) :=
            ⟨HBX5.out.1.set 4 _, HBX5.out.2.of_heap (heap_set _ (by omega))⟩
          have HS6 : Hid (SO (w5.setCell ⟨w.heap.size, 4, none⟩ (.slice sa' (T0.length + 1) sc')) w0.heap.size (.slice sa' (T0 ++ [(⟨1, (g : Int), []⟩ : StepT)]).length sc') (T0 ++ [(⟨1, (g : Int), []⟩ : StepT)]) (K0 ++ [.slice none 0 0])) := HS5.out.setBox HBX5.out.1 _ (by decide)
          have HG6 : Hid (Gr w (w5.setCell ⟨w.heap.size, 4, none⟩ (.slice sa' (T0.length + 1) sc')) (.slice sa T0.length sc) (.slice sa' (T0 ++ [(⟨1, (g : Int), []⟩ : StepT)]).length sc')) := ((Gr.below HBWC.out _).trans HGR.out).set (Nat.le_refl _) _
          have HIK : Hid (IntKept w (w5.setCell ⟨w.heap.size, 4, none⟩ (.slice sa' (T0.length + 1) sc'))) := (IntKept.below HBWC.out).trans ((IntKept.gr HGR.out.1 (HS.out.below HBWC.out)).trans (IntKept.setBox HBX5.out.1 _ (by decide)))
          generalize (w5.setCell ⟨w.heap.size, 4, none⟩ (.slice sa' (T0.length + 1) sc')) = w6 at *
          clear x4 y4 f4 HBX5 HGR HS5 HCP HBXC
          have x0 := HBX6.out.1.cell 0
          have x1 := HBX6.out.1.cell 1
          have x2 := HBX6.out.1.cell 2
          have x3 := HBX6.out.1.cell 3
          have x4 := HBX6.out.1.cell 4
          have x5 := HBX6.out.1.cell 5
          have x6 := HBX6.out.1.cell 6
          have z0 := HBX6.out.2.cell 0
          have z1 := HBX6.out.2.cell 1
          have z2 := HBX6.out.2.cell 2
          have z3 := HBX6.out.2.cell 3
          have z4 := HBX6.out.2.cell 4
          have z5 := HBX6.out.2.cell 5
          have z6 := HBX6.out.2.cell 6
          have zf := fun j => HBX6.out.2.free j
          simp only [List.getElem?_toArray, List.getElem?_cons_zero, List.getElem?_cons_succ] at x0 x1 x2 x3 x4 x5 x6 z0 z1 z2 z3 z4 z5 z6
          go_wp2_with fail
          clear x0 x1 x2 x3 x4 x5 x6 z0 z1 z2 z3 z4 z5 z6 zf x5c HBC HBWC HBX2 HBW2 HB2 HOL HL2 HBR
          have HL0 : Hid ((T0 ++ [(⟨1, (g : Int), []⟩ : StepT)]).length = T0.length + 1) := by simp [Hid]
          obtain ⟨TH, hTH⟩ : ∃ T, T0 ++ [(⟨1, (g : Int), []⟩ : StepT)] = T := ⟨_, rfl⟩
          rw [hTH] at HS6 HL0 HG6
          have HTH := Lib.hid hTH
          clear hTH
          go_loopw [9, 10, 11, 12] (fun v9 v10 _ _ wr => ∃ (r : Nat) (ka : Option Addr) (kc : Nat) (sa1 : Option Addr) (sc1 : Nat) (T1 : List StepT) (K1 : List Value), v10 = .int .i64 r ∧ v9 = .slice ka r kc ∧ r ≤ i + 1 ∧
              Hid (T1 = TH ++ (prvKids (prvF single R G k) W g i T0.length r).1) ∧ Hid (SO wr w0.heap.size (.slice sa1 T1.length sc1) T1 (K0 ++ .slice none 0 0 :: K1)) ∧
              Hid (Box wr w.heap.size 82 #[.slice ra i c, .slice ga m d, .bool single, .int .i64 V, .slice sa1 T1.length sc1, .slice wa m wq, .slice ha hl hc] ∧ Box wr (w.heap.size + 1) 82 #[.slice none 0 0, .slice none 0 0, .bool false, .int .i64 0, .slice none 0 0, .slice none 0 0, .slice none 0 0]) ∧
              Hid (wr.ownsRow w.heap.size 3 1 (.slice ka r kc) r ((prvKids (prvF single R G k) W g i T0.length r).2.map (Value.int .i64))) ∧ Hid (∀ x ∈ K1, ∀ b, x.ownBlock = some b → w.heap.size ≤ b ∧ b < wr.heap.size ∧ (Value.slice ka r kc).ownBlock ≠ some b) ∧
              Hid (Gr w wr (.slice sa T0.length sc) (.slice sa1 T1.length sc1)) ∧ Hid (OwnInts wr 0 wa m W))
            (fun _ v10 _ _ _ => i + 1 - (intOf v10).toNat)
          case atStart => exact ⟨0, none, 0, sa', sc', TH, [], rfl, rfl, Nat.zero_le _, by simp [Hid, prvKids], HS6, by rw [HL0.out]; exact HBX6, World.ownsRow_nil _ _ _ _, fun x hx => by simp at hx, HG6, HW.out.kept HIK.out⟩
          case round =>
            clear HS6 HBX6 HG6
            obtain ⟨r, ka, kc, sa1, sc1, T1, K1, rfl, rfl, hr, HT1, HS1, HBX, HKV, HK1, HGR, HW1⟩ := hrel
            by_cases hlt : r ≤ i
            · have x0 := HBX.out.1.cell 0
              have x1 := HBX.out.1.cell 1
              have x2 := HBX.out.1.cell 2
              have x3 := HBX.out.1.cell 3
              have x4 := HBX.out.1.cell 4
              have x5 := HBX.out.1.cell 5
              have x6 := HBX.out.1.cell 6
              simp only [List.getElem?_toArray, List.getElem?_cons_zero, List.getElem?_cons_succ] at x0 x1 x2 x3 x4 x5 x6
              go_upto_region 18 with fail
              have HB7 : Hid (Below wr.heap.size wr (wr.alloc (.cells #[.slice ra i c, .slice ga m d, .bool single, .int .i64 V, .slice sa1 T1.length sc1, .slice wa m wq, .slice ha hl hc] 82))) := (Below.refl _ _).alloc (Nat.le_refl _) _
              have HN7 : Hid (Box (wr.alloc (.cells #[.slice ra i c, .slice ga m d, .bool single, .int .i64 V, .slice sa1 T1.length sc1, .slice wa m wq, .slice ha hl hc] 82)) wr.heap.size 82 #[.slice ra i c, .slice ga m d, .bool single, .int .i64 V, .slice sa1 T1.length sc1, .slice wa m wq, .slice ha hl hc]) := Box.new rfl
              generalize (wr.alloc (.cells #[.slice ra i c, .slice ga m d, .bool single, .int .i64 V, .slice sa1 T1.length sc1, .slice wa m wq, .slice ha hl hc] 82)) = w7 at *
              clear x0 x1 x2 x3 x4 x5 x6
              have hgm2 : g < m := by have := HGK.out; omega
              have x5 : ∀ o, (w7.alloc o).cell? ⟨w.heap.size, 5, none⟩ = some (.slice wa m wq) := fun o => ((HBX.out.1.below HB7.out).alloc o).cell 5
              obtain ⟨l1, lc1, w8, hcp, hb8, hol⟩ := copy_ints w7 wa m wq W (Nat.le_trans hm (by decide)) (HW1.out.ints.below HB7.out)
              obtain ⟨wb, rfl, hwb, hwr⟩ := hol.2 (Nat.lt_of_le_of_lt (Nat.zero_le _) hgm2)
              have HCP := Lib.hid hcp; have HB8 := Lib.hid (HB7.out.trans (hb8.mono HB7.out.size)); have HWR := Lib.hid hwr
              have HN8 := Lib.hid (HN7.out.below hb8)
              have HWL : Hid (W.length = m) := hol.1
              have hnw : wr.heap.size < wb := Nat.lt_of_lt_of_le (lt_of_block HN7.out) hwb
              clear hcp hb8 hwr hol
              have y5 := HN8.out.cell 5
              have f5 := HN8.out.free 5
              simp only [List.getElem?_toArray, List.getElem?_cons_zero, List.getElem?_cons_succ] at y5
              go_upto_region 19 with (at_builtin; refine wpList_run_append rfl _ _ 22 rfl 22 rfl HCP.out rfl rfl ?_)
              clear x5 y5 f5 HCP HN7 HB7
              have HN9 : Hid (Box (w8.setCell ⟨wr.heap.size, 5, none⟩ (.slice (some ⟨wb, 0, none⟩) m lc1)) wr.heap.size 82 #[.slice ra i c, .slice ga m d, .bool single, .int .i64 V, .slice sa1 T1.length sc1, .slice (some ⟨wb, 0, none⟩) m lc1, .slice ha hl hc]) := HN8.out.set 5 _
              have HB9 : Hid (Below wr.heap.size wr (w8.setCell ⟨wr.heap.size, 5, none⟩ (.slice (some ⟨wb, 0, none⟩) m lc1))) := HB8.out.setCell (Nat.le_refl _) _
              have HWR9 : Hid (IntRow (w8.setCell ⟨wr.heap.size, 5, none⟩ (.slice (some ⟨wb, 0, none⟩) m lc1)) wb 3 W) := HWR.out.of_heap (heap_set _ (by omega))
              generalize (w8.setCell ⟨wr.heap.size, 5, none⟩ (.slice (some ⟨wb, 0, none⟩) m lc1)) = w9 at *
              clear HN8 HB8 HWR
              have y5 := HN9.out.cell 5
              simp only [List.getElem?_toArray, List.getElem?_cons_zero, List.getElem?_cons_succ] at y5
              have rr := HWR9.out.cell g (by rw [HWL.out]; exact hgm2)
              have rf := HWR9.out.free g
              go_upto_region 20 with fail
              have HN10 : Hid (Box (w9.setCell ⟨wb, g, none⟩ (.int .i64 (r : Int))) wr.heap.size 82 #[.slice ra i c, .slice ga m d, .bool single, .int .i64 V, .slice sa1 T1.length sc1, .slice (some ⟨wb, 0, none⟩) m lc1, .slice ha hl hc]) := HN9.out.of_heap (heap_set _ (by omega))
              have HB10 : Hid (Below wr.heap.size wr (w9.setCell ⟨wb, g, none⟩ (.int .i64 (r : Int)))) := HB9.out.setCell (Nat.le_of_lt hnw) _
              have HWR10 : Hid (IntRow (w9.setCell ⟨wb, g, none⟩ (.int .i64 (r : Int))) wb 3 (W.set g r)) := HWR9.out.set g (by rw [HWL.out]; exact hgm2) _
              generalize (w9.setCell ⟨wb, g, none⟩ (.int .i64 (r : Int))) = w10 at *
              clear HN9 HB9 HWR9 y5 rr rf
              have x0 := (HBX.out.1.below HB10.out).cell 0
              have y5 := HN10.out.cell 5
              have rr := HWR10.out.cell g (by rw [List.length_set, HWL.out]; exact hgm2)
              have rf := HWR10.out.free g
              simp only [List.getElem?_toArray, List.getElem?_cons_zero, List.getElem?_cons_succ] at x0 y5
              go_upto_if 114 with fail
              go_cut [10] (fun v10 wx => v10 = .int .i64 (r : Int) ∧ Hid (IntRow wx wb 3 (W.set g (chV r i))) ∧ Hid (Below wr.heap.size wr wx) ∧
                Hid (Box wx wr.heap.size 82 #[.slice ra i c, .slice ga m d, .bool single, .int .i64 V, .slice sa1 T1.length sc1, .slice (some ⟨wb, 0, none⟩) m lc1, .slice ha hl hc]))
              case first =>
                by_cases hri : r = i
                · have e2 : ((r : Int) == (i : Int)) = true := by simp; omega
                  have HRI := Lib.hid hri
                  have HW11 : Hid (IntRow (w10.setCell ⟨wb, g, none⟩ (.int .i64 (-1))) wb 3 (W.set g (-1))) := by
                    have h := HWR10.out.set g (by rw [List.length_set, HWL.out]; exact hgm2) (-1)
                    rw [List.set_set] at h; exact h
                  clear hri
                  go_wp2_with fail
                  go_meet
                  case rel => exact ⟨rfl, by rw [show chV r i = -1 from if_pos HRI.out]; exact HW11, HB10.out.setCell (Nat.le_of_lt hnw) _, HN10.out.of_heap (heap_set _ (by omega))⟩
                · have e2 : ((r : Int) == (i : Int)) = false := by simp; omega
                  have HRI := Lib.hid hri
                  clear hri
                  go_wp2_with fail
                  go_meet
                  case rel => exact ⟨rfl, by rw [show chV r i = (r : Int) from if_neg HRI.out]; exact HWR10, HB10, HN10⟩
              case rest =>
                obtain ⟨rfl, HWX, HBX2, HNX⟩ := hcut
                clear HB10 HWR10 HN10 x0 y5 rr rf
                obtain ⟨W', hW'⟩ : ∃ W', W.set g (chV r i) = W' := ⟨_, rfl⟩
                rw [hW'] at HWX
                have HW' := Lib.hid hW'
                have HWL' : Hid (W'.length = m) := by show _ = _; rw [← hW', List.length_set]; exact HWL.out
                have HWB' : Hid (∀ q, q < m → ix W' q < i) := fun q hq => by
                  rw [← hW', ix_set _ _ _ _ (by rw [HWL.out]; exact hgm2)]
                  have := HWB.out q hq
                  split
                  · unfold chV; split <;> omega
                  · exact this
                clear hW'
                have HLP : Hid (T1.length + prvCap k ≤ 100000) := by
                  have h1 := (prvKids_len (W := W) (g := g) (n := i) (base := T0.length) (fun W b => (prvF_len (single := single) (R := R) (G := G) (by rw [HRL.out]; exact hn) k W b).2) r).1
                  have h2 : r * prvCap k ≤ 4 * prvCap k := Nat.mul_le_mul_right _ (by omega)
                  have h3 := HCAP.out
                  rw [prvCap] at h3
                  show _ ≤ _
                  rw [HT1.out, List.length_append, HL0.out]
                  omega
                have HBWX : Hid (Below w0.heap.size w0 wc) := (Below.gr HB.out hB0 HGR.out.1 HS.out).trans (HBX2.out.mono (Nat.le_trans hB0 HGR.out.1.size))
                have HSX := Lib.hid (HS1.out.below HBX2.out)
                have HOX : Hid (OwnInts wc 0 (some ⟨wb, 0, none⟩) m W') := ⟨HWL'.out, fun _ => ⟨wb, rfl, Nat.zero_le _, HWX.out⟩⟩
                have HGK2 : Hid (g + 1 + k = m) := by have := HGK.out; show _ = _; omega
                have y0 := HNX.out.cell 0
                have y1 := HNX.out.cell 1
                have y2 := HNX.out.cell 2
                have y3 := HNX.out.cell 3
                have y4 := HNX.out.cell 4
                have y5 := HNX.out.cell 5
                have y6 := HNX.out.cell 6
                simp only [List.getElem?_toArray, List.getElem?_cons_zero, List.getElem?_cons_succ] at y0 y1 y2 y3 y4 y5 y6
                go_wp2_with fail
                refine (HIH.out k (Nat.lt_succ_self k) (g + 1) W' (some ⟨wb, 0, none⟩) lc1 sa1 sc1 T1 (K0 ++ .slice none 0 0 :: K1) wc HGK2.out HBWX.out HOX.out HWB'.out HSX.out HLP.out).mono ?_
                rintro e w12 ⟨sa2, sc2, K2, rfl, hs2, hk2, hg2⟩
                obtain ⟨T2, hT2⟩ : ∃ T2, T1 ++ prvF single R G k W' T1.length = T2 := ⟨_, rfl⟩
                rw [hT2] at hs2 hg2
                rw [hT2]
                unfold workV
                have HT2 := Lib.hid hT2; have HS2 := Lib.hid hs2; have HK2 := Lib.hid hk2; have HG2 := Lib.hid hg2
                have HNX12 := Lib.hid (HNX.out.gr hg2.1 HSX.out (by decide))
                clear hT2 hs2 hk2 hg2 y0 y1 y2 y3 y4 y5 y6
                have y0 := HNX12.out.cell 0
                have y1 := HNX12.out.cell 1
                have y2 := HNX12.out.cell 2
                have y3 := HNX12.out.cell 3
                have y4 := HNX12.out.cell 4
                have y5 := HNX12.out.cell 5
                have y6 := HNX12.out.cell 6
                have yf := fun j => HNX12.out.free j
                simp only [List.getElem?_toArray, List.getElem?_cons_zero, List.getElem?_cons_succ] at y0 y1 y2 y3 y4 y5 y6
                go_upto_region 23 with fail
                have hwl : w.heap.size + 1 < wr.heap.size := lt_of_block HBX.out.2
                have HBX12 : Hid (Box w12 w.heap.size 82 #[.slice ra i c, .slice ga m d, .bool single, .int .i64 V, .slice sa1 T1.length sc1, .slice wa m wq, .slice ha hl hc] ∧ Box w12 (w.heap.size + 1) 82 #[.slice none 0 0, .slice none 0 0, .bool false, .int .i64 0, .slice none 0 0, .slice none 0 0, .slice none 0 0]) :=
                  ⟨(HBX.out.1.below HBX2.out).gr HG2.out.1 HSX.out (by decide), (HBX.out.2.below HBX2.out).gr HG2.out.1 HSX.out (by decide)⟩
                have HBX13 : Hid (Box (((((((w12.setCell ⟨wr.heap.size, 0, none⟩ (.slice ra i c)).setCell ⟨wr.heap.size, 1, none⟩ (.slice ga m d)).setCell ⟨wr.heap.size, 2, none⟩ (.bool single)).setCell ⟨wr.heap.size, 3, none⟩ (.int .i64 V)).setCell ⟨wr.heap.size, 4, none⟩ (.slice sa2 T2.length sc2)).setCell ⟨wr.heap.size, 5, none⟩ (.slice (some ⟨wb, 0, none⟩) m lc1)).setCell ⟨wr.heap.size, 6, none⟩ (.slice ha hl hc)) w.heap.size 82 #[.slice ra i c, .slice ga m d, .bool single, .int .i64 V, .slice sa1 T1.length sc1, .slice wa m wq, .slice ha hl hc] ∧ Box (((((((w12.setCell ⟨wr.heap.size, 0, none⟩ (.slice ra i c)).setCell ⟨wr.heap.size, 1, none⟩ (.slice ga m d)).setCell ⟨wr.heap.size, 2, none⟩ (.bool single)).setCell ⟨wr.heap.size, 3, none⟩ (.int .i64 V)).setCell ⟨wr.heap.size, 4, none⟩ (.slice sa2 T2.length sc2)).setCell ⟨wr.heap.size, 5, none⟩ (.slice (some ⟨wb, 0, none⟩) m lc1)).setCell ⟨wr.heap.size, 6, none⟩ (.slice ha hl hc)) (w.heap.size + 1) 82 #[.slice none 0 0, .slice none 0 0, .bool false, .int .i64 0, .slice none 0 0, .slice none 0 0, .slice none 0 0]) :=
                  ⟨HBX12.out.1.of_heap (heap_set7 _ _ _ _ _ _ _ _ (by omega)), HBX12.out.2.of_heap (heap_set7 _ _ _ _ _ _ _ _ (by omega))⟩
                have HN13 : Hid (Box (((((((w12.setCell ⟨wr.heap.size, 0, none⟩ (.slice ra i c)).setCell ⟨wr.heap.size, 1, none⟩ (.slice ga m d)).setCell ⟨wr.heap.size, 2, none⟩ (.bool single)).setCell ⟨wr.heap.size, 3, none⟩ (.int .i64 V)).setCell ⟨wr.heap.size, 4, none⟩ (.slice sa2 T2.length sc2)).setCell ⟨wr.heap.size, 5, none⟩ (.slice (some ⟨wb, 0, none⟩) m lc1)).setCell ⟨wr.heap.size, 6, none⟩ (.slice ha hl hc)) wr.heap.size 82 #[.slice ra i c, .slice ga m d, .bool single, .int .i64 V, .slice sa2 T2.length sc2, .slice (some ⟨wb, 0, none⟩) m lc1, .slice ha hl hc]) := HNX12.out.set7 _ _ _ _ _ _ _
                have HS13 : Hid (SO (((((((w12.setCell ⟨wr.heap.size, 0, none⟩ (.slice ra i c)).setCell ⟨wr.heap.size, 1, none⟩ (.slice ga m d)).setCell ⟨wr.heap.size, 2, none⟩ (.bool single)).setCell ⟨wr.heap.size, 3, none⟩ (.int .i64 V)).setCell ⟨wr.heap.size, 4, none⟩ (.slice sa2 T2.length sc2)).setCell ⟨wr.heap.size, 5, none⟩ (.slice (some ⟨wb, 0, none⟩) m lc1)).setCell ⟨wr.heap.size, 6, none⟩ (.slice ha hl hc)) w0.heap.size (.slice sa2 T2.length sc2) T2 (K0 ++ .slice none 0 0 :: K1 ++ K2)) := HS2.out.set7 HNX12.out (by decide) _ _ _ _ _ _ _
                have HI13 : Hid (IntKept wr (((((((w12.setCell ⟨wr.heap.size, 0, none⟩ (.slice ra i c)).setCell ⟨wr.heap.size, 1, none⟩ (.slice ga m d)).setCell ⟨wr.heap.size, 2, none⟩ (.bool single)).setCell ⟨wr.heap.size, 3, none⟩ (.int .i64 V)).setCell ⟨wr.heap.size, 4, none⟩ (.slice sa2 T2.length sc2)).setCell ⟨wr.heap.size, 5, none⟩ (.slice (some ⟨wb, 0, none⟩) m lc1)).setCell ⟨wr.heap.size, 6, none⟩ (.slice ha hl hc))) := ((IntKept.below HBX2.out).trans (IntKept.gr HG2.out.1 HSX.out)).trans (IntKept.set7 HNX12.out (by decide) _ _ _ _ _ _ _)
                have HG13 : Hid (Gr w (((((((w12.setCell ⟨wr.heap.size, 0, none⟩ (.slice ra i c)).setCell ⟨wr.heap.size, 1, none⟩ (.slice ga m d)).setCell ⟨wr.heap.size, 2, none⟩ (.bool single)).setCell ⟨wr.heap.size, 3, none⟩ (.int .i64 V)).setCell ⟨wr.heap.size, 4, none⟩ (.slice sa2 T2.length sc2)).setCell ⟨wr.heap.size, 5, none⟩ (.slice (some ⟨wb, 0, none⟩) m lc1)).setCell ⟨wr.heap.size, 6, none⟩ (.slice ha hl hc)) (.slice sa T0.length sc) (.slice sa2 T2.length sc2)) := ((HGR.out.trans (Gr.below HBX2.out _)).trans HG2.out).set7 (by omega) _ _ _ _ _ _ _
                have hz13 : w12.heap.size ≤ (((((((w12.setCell ⟨wr.heap.size, 0, none⟩ (.slice ra i c)).setCell ⟨wr.heap.size, 1, none⟩ (.slice ga m d)).setCell ⟨wr.heap.size, 2, none⟩ (.bool single)).setCell ⟨wr.heap.size, 3, none⟩ (.int .i64 V)).setCell ⟨wr.heap.size, 4, none⟩ (.slice sa2 T2.length sc2)).setCell ⟨wr.heap.size, 5, none⟩ (.slice (some ⟨wb, 0, none⟩) m lc1)).setCell ⟨wr.heap.size, 6, none⟩ (.slice ha hl hc)).heap.size := (below_set7 (Below.refl 0 w12) (Nat.zero_le _) _ _ _ _ _ _ _).size
                have HZ12 : Hid (wr.heap.size ≤ wc.heap.size ∧ wc.heap.size ≤ w12.heap.size) := ⟨HBX2.out.size, HG2.out.1.size⟩
                generalize (((((((w12.setCell ⟨wr.heap.size, 0, none⟩ (.slice ra i c)).setCell ⟨wr.heap.size, 1, none⟩ (.slice ga m d)).setCell ⟨wr.heap.size, 2, none⟩ (.bool single)).setCell ⟨wr.heap.size, 3, none⟩ (.int .i64 V)).setCell ⟨wr.heap.size, 4, none⟩ (.slice sa2 T2.length sc2)).setCell ⟨wr.heap.size, 5, none⟩ (.slice (some ⟨wb, 0, none⟩) m lc1)).setCell ⟨wr.heap.size, 6, none⟩ (.slice ha hl hc)) = w13 at *
                clear HBX12 HNX12 y0 y1 y2 y3 y4 y5 y6 yf HNX
                have y4 := HN13.out.cell 4
                have x4 := HBX13.out.1.cell 4
                have f4 := HBX13.out.1.free 4
                simp only [List.getElem?_toArray, List.getElem?_cons_zero, List.getElem?_cons_succ] at y4 x4
                go_upto_region 24 with fail
                have HBX14 : Hid (Box (w13.setCell ⟨w.heap.size, 4, none⟩ (.slice sa2 T2.length sc2)) w.heap.size 82 #[.slice ra i c, .slice ga m d, .bool single, .int .i64 V, .slice sa2 T2.length sc2, .slice wa m wq, .slice ha hl hc] ∧ Box (w13.setCell ⟨w.heap.size, 4, none⟩ (.slice sa2 T2.length sc2)) (w.heap.size + 1) 82 #[.slice none 0 0, .slice none 0 0, .bool false, .int .i64 0, .slice none 0 0, .slice none 0 0, .slice none 0 0]) :=
                  ⟨HBX13.out.1.set 4 _, HBX13.out.2.of_heap (heap_set _ (by omega))⟩
                have HS14 : Hid (SO (w13.setCell ⟨w.heap.size, 4, none⟩ (.slice sa2 T2.length sc2)) w0.heap.size (.slice sa2 T2.length sc2) T2 (K0 ++ .slice none 0 0 :: K1 ++ K2)) := HS13.out.setBox HBX13.out.1 _ (by decide)
                have HI14 : Hid (IntKept wr (w13.setCell ⟨w.heap.size, 4, none⟩ (.slice sa2 T2.length sc2))) := HI13.out.trans (IntKept.setBox HBX13.out.1 _ (by decide))
                have HG14 : Hid (Gr w (w13.setCell ⟨w.heap.size, 4, none⟩ (.slice sa2 T2.length sc2)) (.slice sa T0.length sc) (.slice sa2 T2.length sc2)) := HG13.out.set (Nat.le_refl _) _
                have hz14 : w13.heap.size ≤ (w13.setCell ⟨w.heap.size, 4, none⟩ (.slice sa2 T2.length sc2)).heap.size := by simp [World.setCell]
                generalize (w13.setCell ⟨w.heap.size, 4, none⟩ (.slice sa2 T2.length sc2)) = w14 at *
                clear HN13 HBX13 HS13 HI13 HG13 y4 x4 f4
                have HKV14 := Lib.hid (ownInt_heap HKV.out (fun b arr h1 _ => HI14.out b arr h1))
                obtain ⟨kv', w15, hcp, hkv', hkg, hko⟩ := push_int HKV14.out (Nat.le_of_lt (by have := HZ12.out; omega)) (by omega) ((T1.length : Nat) : Int)
                obtain ⟨ka', kc', rfl⟩ := ownInt_shape hkv'
                have HCP := Lib.hid hcp; have HKV' := Lib.hid hkv'; have HKG := Lib.hid hkg; have HKO := Lib.hid hko
                clear hcp hkv' hkg hko
                go_wp2_with (at_builtin; refine wpList_run_append rfl _ _ 22 rfl 22 rfl HCP.out rfl rfl ?_)
                clear HCP
                have hkrow : ∀ q, (Value.slice ka r kc).ownBlock = some q → w.heap.size ≤ q ∧ q < wr.heap.size := fun q hq => HKV.out.lt q hq
                have HKROW := Lib.hid hkrow
                clear hkrow
                have HPL : Hid ((prvKids (prvF single R G k) W g i T0.length (r + 1)).1 = (prvKids (prvF single R G k) W g i T0.length r).1 ++ prvF single R G k W' T1.length ∧ (prvKids (prvF single R G k) W g i T0.length (r + 1)).2 = (prvKids (prvF single R G k) W g i T0.length r).2 ++ [((T1.length : Nat) : Int)]) := by
                  have h1 : T0.length + 1 + (prvKids (prvF single R G k) W g i T0.length r).1.length = T1.length := by rw [HT1.out, List.length_append, HL0.out]
                  have h2 : (if r = i then (-1 : Int) else (r : Int)) = chV r i := rfl
                  show _ ∧ _
                  rw [prvKids, h1, h2, HW'.out]
                  exact ⟨rfl, rfl⟩
                have HS15 : Hid (SO w15 w0.heap.size (.slice sa2 T2.length sc2) T2 (K0 ++ .slice none 0 0 :: K1 ++ K2)) := HS14.out.grow HKV14.out HKG.out (fun x hx b hb hkb => by
                  have hr := HKROW.out b hkb
                  rw [List.append_assoc, List.cons_append] at hx
                  rcases List.mem_append.mp hx with hx | hx
                  · have := HS.out.lt x hx b hb; omega
                  · rcases List.mem_cons.mp hx with rfl | hx
                    · simp [Value.ownBlock] at hb
                    · rcases List.mem_append.mp hx with hx | hx
                      · exact (HK1.out x hx b hb).2.2 hkb
                      · have := HK2.out x hx b hb; have := HZ12.out; omega)
                have HBX15 : Hid (Box w15 w.heap.size 82 #[.slice ra i c, .slice ga m d, .bool single, .int .i64 V, .slice sa2 T2.length sc2, .slice wa m wq, .slice ha hl hc] ∧ Box w15 (w.heap.size + 1) 82 #[.slice none 0 0, .slice none 0 0, .bool false, .int .i64 0, .slice none 0 0, .slice none 0 0, .slice none 0 0]) :=
                  ⟨HBX14.out.1.grow HKV14.out HKG.out (by decide), HBX14.out.2.grow HKV14.out HKG.out (by decide)⟩
                have HG15 : Hid (Gr w w15 (.slice sa T0.length sc) (.slice sa2 T2.length sc2)) := HG14.out.grow HKG.out (fun q hq => (HKROW.out q hq).1)
                have hz15 : w14.heap.size ≤ w15.heap.size := HKG.out.size
                have HK15 : Hid (∀ x ∈ K1 ++ K2, ∀ b, x.ownBlock = some b → w.heap.size ≤ b ∧ b < w15.heap.size ∧ (Value.slice ka' (r + 1) kc').ownBlock ≠ some b) := fun x hx b hb => by
                  have hz := HZ12.out
                  have h14 : b < w14.heap.size := HS14.out.lt x (by rw [List.append_assoc, List.cons_append]; exact List.mem_append_right _ (List.mem_cons_of_mem _ hx)) b hb
                  have hge : w.heap.size ≤ b ∧ (Value.slice ka r kc).ownBlock ≠ some b := by
                    rcases List.mem_append.mp hx with hx | hx
                    · have := HK1.out x hx b hb; exact ⟨this.1, this.2.2⟩
                    · have := HK2.out x hx b hb
                      exact ⟨by omega, fun h => by have := HKROW.out b h; omega⟩
                  refine ⟨hge.1, by omega, fun h => ?_⟩
                  rcases HKO.out with e | ⟨q, e, hq⟩
                  · exact hge.2 (e ▸ h)
                  · rw [e] at h; simp at h; omega
                go_roundw
                case rel => exact ⟨r + 1, ka', kc', sa2, sc2, T2, K1 ++ K2, by go_num, rfl, by omega, by
                  show _ = _
                  rw [HPL.out.1, ← List.append_assoc, ← HT1.out]; exact HT2.out.symm, by
                  have h := HS15.out
                  rw [List.append_assoc, List.cons_append] at h
                  exact h, HBX15, by rw [HPL.out.2]; exact HKV'.out, HK15, HG15, HW.out.gr HG15.out.1 HS.out⟩
                case measure => simp [intOf]; omega
            · obtain rfl : r = i + 1 := by omega
              have HPS : Hid (prvF single R G (k + 1) W T0.length = ⟨1, (g : Int), (prvKids (prvF single R G k) W g i T0.length (i + 1)).2⟩ :: (prvKids (prvF single R G k) W g i T0.length (i + 1)).1) := by
                have h := prvF_succ (W := W) k T0.length HNONE.out
                have hg : G.length - (k + 1) = g := by rw [HGL.out]; have := HGK.out; omega
                rw [hg, HRL.out] at h
                exact h
              have HPL : Hid ((prvKids (prvF single R G k) W g i T0.length (i + 1)).2.length = i + 1) :=
                (prvKids_len (W := W) (g := g) (n := i) (base := T0.length) (fun W b => (prvF_len (single := single) (R := R) (G := G) (by rw [HRL.out]; exact hn) k W b).2) (i + 1)).2
              obtain ⟨P1, hP1⟩ : ∃ P, (prvKids (prvF single R G k) W g i T0.length (i + 1)).1 = P := ⟨_, rfl⟩
              obtain ⟨P2, hP2⟩ : ∃ P, (prvKids (prvF single R G k) W g i T0.length (i + 1)).2 = P := ⟨_, rfl⟩
              rw [hP1] at HT1 HPS
              rw [hP2] at HKV HPL HPS
              clear hP1 hP2
              obtain ⟨ka2, kc2, hke, hko⟩ := OwnInts.of_row HKV.out
              obtain ⟨rfl, rfl⟩ : ka = ka2 ∧ kc = kc2 := by simpa using hke
              obtain ⟨kb, rfl, hkb, hkr⟩ := hko.2 (Nat.succ_pos i)
              have HKID : Hid (KidV wr (.slice (some ⟨kb, 0, none⟩) (i + 1) kc) P2) := ⟨_, _, by rw [HPL.out], fun h => by rw [HPL.out] at h; omega, fun _ => ⟨kb, rfl, hkr⟩⟩
              clear hke hko hkr
              have hTT : T1 = T0 ++ ⟨1, (g : Int), []⟩ :: P1 := by rw [HT1.out, ← HTH.out, List.append_assoc]; rfl
              obtain ⟨sb, rfl⟩ : ∃ sb, sa1 = some ⟨sb, 0, none⟩ := by
                rcases HS1.out.own.2 with ⟨hv, h0⟩ | ⟨b, cap, cur, hv, _⟩
                · rw [hTT] at h0; simp at h0
                · simp at hv; exact ⟨b, hv.1⟩
              have HSF : Hid (SO wr w0.heap.size (.slice (some ⟨sb, 0, none⟩) (T0 ++ ⟨1, (g : Int), []⟩ :: P1).length sc1) (T0 ++ ⟨1, (g : Int), []⟩ :: P1) (K0 ++ .slice none 0 0 :: K1)) := by rw [← hTT]; exact HS1.out
              have hcell := HSF.out.cell HS.out.len
              have HTT := Lib.hid hTT
              have hkd := HSF.out.kids (kv := .slice (some ⟨kb, 0, none⟩) (i + 1) kc) (ks := P2) rfl HS.out.len HKID.out
              obtain ⟨c1, f1, hlt1⟩ := hcell
              have HS16 : Hid (SO (wr.setCell ⟨sb, T0.length * 3 + 2, none⟩ (.slice (some ⟨kb, 0, none⟩) (i + 1) kc)) w0.heap.size (.slice (some ⟨sb, 0, none⟩) T1.length sc1) (T0 ++ ⟨1, (g : Int), P2⟩ :: P1) (K0 ++ .slice (some ⟨kb, 0, none⟩) (i + 1) kc :: K1)) := by
                show SO _ _ _ _ _
                have e : T1.length = (T0 ++ (⟨1, (g : Int), P2⟩ : StepT) :: P1).length := by rw [hTT]; simp
                rw [e]; exact hkd
              rw [← hTT] at hlt1
              clear hTT hkd
              have hgs : wr.grownBy (wr.setCell ⟨sb, T0.length * 3 + 2, none⟩ (.slice (some ⟨kb, 0, none⟩) (i + 1) kc)) (Value.slice (some ⟨sb, 0, none⟩) T1.length sc1).ownBlock := grown_setCell _ _ _ _
              have HBX16 : Hid (Box (wr.setCell ⟨sb, T0.length * 3 + 2, none⟩ (.slice (some ⟨kb, 0, none⟩) (i + 1) kc)) w.heap.size 82 #[.slice ra i c, .slice ga m d, .bool single, .int .i64 V, .slice (some ⟨sb, 0, none⟩) T1.length sc1, .slice wa m wq, .slice ha hl hc] ∧
                  Box (wr.setCell ⟨sb, T0.length * 3 + 2, none⟩ (.slice (some ⟨kb, 0, none⟩) (i + 1) kc)) (w.heap.size + 1) 82 #[.slice none 0 0, .slice none 0 0, .bool false, .int .i64 0, .slice none 0 0, .slice none 0 0, .slice none 0 0]) :=
                ⟨HBX.out.1.gr hgs HS1.out (by decide), HBX.out.2.gr hgs HS1.out (by decide)⟩
              have HG16 : Hid (Gr w (wr.setCell ⟨sb, T0.length * 3 + 2, none⟩ (.slice (some ⟨kb, 0, none⟩) (i + 1) kc)) (.slice sa T0.length sc) (.slice (some ⟨sb, 0, none⟩) T1.length sc1)) := HGR.out.trans ⟨hgs, .inl rfl⟩
              have x0 := HBX.out.1.cell 0
              have x4 := HBX.out.1.cell 4
              simp only [List.getElem?_toArray, List.getElem?_cons_zero, List.getElem?_cons_succ] at x0 x4
              clear hgs
              go_upto_region 26 with fail
              generalize (wr.setCell ⟨sb, T0.length * 3 + 2, none⟩ (.slice (some ⟨kb, 0, none⟩) (i + 1) kc)) = w16 at *
              clear x0 x4 c1 f1
              have x0 := HBX16.out.1.cell 0
              have x1 := HBX16.out.1.cell 1
              have x2 := HBX16.out.1.cell 2
              have x3 := HBX16.out.1.cell 3
              have x4 := HBX16.out.1.cell 4
              have x5 := HBX16.out.1.cell 5
              have x6 := HBX16.out.1.cell 6
              have z0 := HBX16.out.2.cell 0
              have z1 := HBX16.out.2.cell 1
              have z2 := HBX16.out.2.cell 2
              have z3 := HBX16.out.2.cell 3
              have z4 := HBX16.out.2.cell 4
              have z5 := HBX16.out.2.cell 5
              have z6 := HBX16.out.2.cell 6
              have zf := fun j => HBX16.out.2.free j
              simp only [List.getElem?_toArray, List.getElem?_cons_zero, List.getElem?_cons_succ] at x0 x1 x2 x3 x4 x5 x6 z0 z1 z2 z3 z4 z5 z6
              go_wp2_with fail
              refine bodyPost_ret (v := .tuple #[.agg #[.slice ra i c, .slice ga m d, .bool single, .int .i64 V, .slice (some ⟨sb, 0, none⟩) T1.length sc1, .slice wa m wq, .slice ha hl hc], .int .i64 (T0.length : Nat)]) (by simp [results, Try.results61, go_sem, z0, z1, z2, z3, z4, z5, z6]) rfl ?_
              have e : T1.length = (T0 ++ (⟨1, (g : Int), P2⟩ : StepT) :: P1).length := by rw [HTT.out]; simp
              have hfs := HS16.out.set7 HBX16.out.2 (by decide) (.slice ra i c) (.slice ga m d) (.bool single) (.int .i64 V) (.slice (some ⟨sb, 0, none⟩) T1.length sc1) (.slice wa m wq) (.slice ha hl hc)
              have hfg := HG16.out.set7 (g := w.heap.size + 1) (by omega) (.slice ra i c) (.slice ga m d) (.bool single) (.int .i64 V) (.slice (some ⟨sb, 0, none⟩) T1.length sc1) (.slice wa m wq) (.slice ha hl hc)
              rw [HPS.out]
              refine ⟨some ⟨sb, 0, none⟩, sc1, .slice (some ⟨kb, 0, none⟩) (i + 1) kc :: K1, by rw [← e]; rfl, by rw [← e]; exact hfs, fun x hx b hb => ?_, by rw [← e]; exact hfg⟩
              rcases List.mem_cons.mp hx with rfl | hx
              · exact (HKV.out.lt b hb).1
              · exact (HK1.out x hx b hb).1
        · have hk0 : k = 0 := by have := HLAST.out; simpa using this
          subst hk0
          obtain ⟨v', w5, hcp, hs5, hgr⟩ := push_step (HS.out.below HBWC.out) (Nat.le_trans hB0 HBWC.out.size) hT0 2 0
          obtain ⟨sa', sc', rfl⟩ := hs5.shape
          have HCP := Lib.hid hcp; have HS5 := Lib.hid hs5; have HGR := Lib.hid hgr
          have x4 := HBXC.out.1.cell 4
          simp only [List.getElem?_toArray, List.getElem?_cons_zero, List.getElem?_cons_succ] at x4
          clear hcp hs5 hgr
          have HBX5 := Lib.hid ((⟨HBXC.out.1.gr HGR.out.1 (HS.out.below HBWC.out) (by decide), HBXC.out.2.gr HGR.out.1 (HS.out.below HBWC.out) (by decide)⟩ : _ ∧ _))
          have y4 := HBX5.out.1.cell 4
          have f4 := HBX5.out.1.free 4
          simp only [List.getElem?_toArray, List.getElem?_cons_zero, List.getElem?_cons_succ] at y4
          go_upto_region 11 with (at_builtin; refine wpList_run_append rfl _ _ 44 rfl 44 rfl HCP.out rfl rfl ?_)
          have HBX6 : Hid (Box (w5.setCell ⟨w.heap.size, 4, none⟩ (.slice sa' (T0.length + 1) sc')) w.heap.size 82 #[.slice ra i c, .slice ga m d, .bool single, .int .i64 V, .slice sa' (T0.length + 1) sc', .slice wa m wq, .slice ha hl hc] ∧
              Box (w5.setCell ⟨w.heap.size, 4, none⟩ (.slice sa' (T0.length + 1) sc')) (w.heap.size + 1) 82 #[.slice none 0 0, .slice none 0 0, .bool false, .int .i64 0, .slice none 0 0, .slice none 0 0, .slice none 0 0]) :=
            ⟨HBX5.out.1.set 4 _, HBX5.out.2.of_heap (heap_set _ (by omega))⟩
          have HS6 : Hid (SO (w5.setCell ⟨w.heap.size, 4, none⟩ (.slice sa' (T0.length + 1) sc')) w0.heap.size (.slice sa' (T0 ++ [(⟨2, 0, []⟩ : StepT)]).length sc') (T0 ++ [(⟨2, 0, []⟩ : StepT)]) (K0 ++ [.slice none 0 0])) := HS5.out.setBox HBX5.out.1 _ (by decide)
          have HG6 : Hid (Gr w (w5.setCell ⟨w.heap.size, 4, none⟩ (.slice sa' (T0.length + 1) sc')) (.slice sa T0.length sc) (.slice sa' (T0 ++ [(⟨2, 0, []⟩ : StepT)]).length sc')) := ((Gr.below HBWC.out _).trans HGR.out).set (Nat.le_refl _) _
          generalize (w5.setCell ⟨w.heap.size, 4, none⟩ (.slice sa' (T0.length + 1) sc')) = w6 at *
          clear x4 y4 f4 HBX5 HGR HS5 HCP HBXC
          have x0 := HBX6.out.1.cell 0
          have x1 := HBX6.out.1.cell 1
          have x2 := HBX6.out.1.cell 2
          have x3 := HBX6.out.1.cell 3
          have x4 := HBX6.out.1.cell 4
          have x5 := HBX6.out.1.cell 5
          have x6 := HBX6.out.1.cell 6
          have z0 := HBX6.out.2.cell 0
          have z1 := HBX6.out.2.cell 1
          have z2 := HBX6.out.2.cell 2
          have z3 := HBX6.out.2.cell 3
          have z4 := HBX6.out.2.cell 4
          have z5 := HBX6.out.2.cell 5
          have z6 := HBX6.out.2.cell 6
          have zf := fun j => HBX6.out.2.free j
          simp only [List.getElem?_toArray, List.getElem?_cons_zero, List.getElem?_cons_succ] at x0 x1 x2 x3 x4 x5 x6 z0 z1 z2 z3 z4 z5 z6
          go_wp2_with fail
          have HFB : Hid (prvF single R G 0 W T0.length = [⟨2, 0, []⟩]) := prvF_zero _ HNONE.out
          refine bodyPost_ret (v := .tuple #[.agg #[.slice ra i c, .slice ga m d, .bool single, .int .i64 V, .slice sa' (T0.length + 1) sc', .slice wa m wq, .slice ha hl hc], .int .i64 (T0.length : Nat)]) (by simp [results, Try.results61, go_sem, z0, z1, z2, z3, z4, z5, z6]) rfl ?_
          rw [HFB.out]
          exact ⟨sa', sc', [.slice none 0 0], by simp [workV], HS6.out.set7 HBX6.out.2 (by decide) _ _ _ _ _ _ _, fun x hx b hb => by simp at hx; subst hx; simp [Value.ownBlock] at hb, HG6.out.set7 (by omega) _ _ _ _ _ _ _⟩
end Go.Proofs.Ytaomlhhlefpdeaa
