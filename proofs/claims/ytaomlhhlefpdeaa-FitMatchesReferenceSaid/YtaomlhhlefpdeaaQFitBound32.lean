/- foyerref22.Prove: the walk. -/
import Derived.Test.YtaomlhhlefpdeaaQFitBound31

namespace Go.Proofs.Ytaomlhhlefpdeaa
open Go.RowKit Go.IntWalk

theorem scells_get : ∀ (T : List StepT) (K : List Value), K.length = T.length → ∀ n, n < T.length → (scells T K)[n * 3]? = some (.int .i64 (stepAt T n).kind) ∧ (scells T K)[n * 3 + 1]? = some (.int .i64 (stepAt T n).group) ∧ (scells T K)[n * 3 + 2]? = some (K.getD n undef) := by
  intro T
  induction T with
  | nil => intro K _ n hn; simp at hn
  | cons t T ih =>
    intro K h n hn
    cases K with
    | nil => simp at h
    | cons k K =>
      cases n with
      | zero => simp [scells, stepAt, List.getD]
      | succ n =>
        have i := ih K (by simpa using h) n (by simpa using hn)
        have e1 : stepAt (t :: T) (n + 1) = stepAt T n := by simp [stepAt, List.getD]
        have e2 : (k :: K).getD (n + 1) undef = K.getD n undef := by simp [List.getD]
        rw [e1, e2, scells, show (n + 1) * 3 = n * 3 + 1 + 1 + 1 from by omega]
        simp only [List.getElem?_cons_succ, show n * 3 + 1 + 1 + 1 + 1 = (n * 3 + 1) + 1 + 1 + 1 from rfl, show n * 3 + 1 + 1 + 1 + 2 = (n * 3 + 2) + 1 + 1 + 1 from rfl]
        exact i

theorem SO.steps {w : World} {B : Nat} {sa : Option Addr} {n sc : Nat} {T : List StepT} {K : List Value} (h : SO w B (.slice sa n sc) T K) (_hn : n = T.length) : Steps w sa T.length T := by
  refine ⟨rfl, fun i hi => ?_⟩
  rcases h.own.2 with ⟨_, h0⟩ | ⟨b, cap, cur, hv, hbb, hgg, c1, c2, c3, c4⟩
  · omega
  · obtain ⟨rfl, _, rfl⟩ : sa = some ⟨b, 0, none⟩ ∧ n = T.length ∧ sc = cap := by simpa using hv
    obtain ⟨g1, g2, g3⟩ := scells_get T K h.len i hi
    obtain ⟨ka, kc, hk, hz, hr⟩ := h.kid i hi
    rw [hk] at g3
    rw [← c4] at g1 g2 g3
    rw [List.getElem?_take_of_lt (by omega), Array.getElem?_toList] at g1 g2 g3
    refine ⟨b, 0, ka, kc, rfl, ?_, ?_, ?_, rfl, fun q hq => ?_⟩
    · simp only [World.cell?, hgg, Nat.zero_add]; exact g1
    · simp only [World.cell?, hgg, Nat.zero_add]; exact g2
    · simp only [World.cell?, hgg, Nat.zero_add]; exact g3
    · obtain ⟨kb, rfl, r⟩ := hr (by omega)
      exact ⟨kb, 0, rfl, by rw [Nat.zero_add]; exact r.cell q hq⟩

/-- The steps of Prove. -/
def proveL (single : Bool) (R : List Int) (G : List (Int × Int)) : List StepT := prvF single R G G.length (List.replicate G.length (-2)) 0

theorem below_none {w w' : World} (h : w.grownBy w' none) : Below w.heap.size w w' := ⟨h.os, h.tape, h.output, h.size, fun i hi => h.block i hi (by simp)⟩

theorem prvCap_le (k : Nat) (h : k ≤ 4) : prvCap k ≤ 100000 := by
  match k, h with
  | 0, _ | 1, _ | 2, _ | 3, _ | 4, _ => decide

/-- What Prove leaves. -/
def ProofPost (T : List StepT) (w : World) (e : Ending) (w' : World) : Prop := ∃ sa sc, e = .returned (.agg #[.slice sa T.length sc]) ∧ Below w.heap.size w w' ∧ Steps w' sa T.length T

set_option maxRecDepth 20000 in
set_option maxHeartbeats 3200000 in
theorem Prove_any (ra ga : Option Addr) (n c m d : Nat) (single : Bool) (R : List Int) (G : List (Int × Int)) (w : World) (hn : n ≤ 4) (hm : m ≤ 4) (hR : Ints w ra n R) (hG : Pairs w ga m G) (hv : ValuesOk G) (hRb : ∀ r, r < n → 0 ≤ ix R r ∧ ix R r ≤ 4000) :
    Calls Try.prog 33 #[.agg #[.slice ra n c, .slice ga m d, .bool single]] w (ProofPost (proveL single R G) w) := by
  have HR := Lib.hid hR; have HG := Lib.hid hG; have HV := Lib.hid hv; have HRB := Lib.hid hRb; have HGL := Lib.hid hG.1
  clear hR hG hv hRb
  go_enter Try.func33, Try.ntmps33
  go_upto_region 2 with fail
  have hb0 : Below w.heap.size w (((w.alloc (.cells #[.slice ra n c, .slice ga m d, .bool single] 25)).alloc (.cells #[.slice none 0 0] 46)).alloc (.cells #[.slice ra n c, .slice ga m d, .bool single, .int .i64 0, .slice none 0 0, .slice none 0 0, .slice none 0 0] 82)) := (((Below.refl _ _).alloc (Nat.le_refl _) _).alloc (by simp) _).alloc (by simp; omega) _
  have HBX0 : Hid (Box (((w.alloc (.cells #[.slice ra n c, .slice ga m d, .bool single] 25)).alloc (.cells #[.slice none 0 0] 46)).alloc (.cells #[.slice ra n c, .slice ga m d, .bool single, .int .i64 0, .slice none 0 0, .slice none 0 0, .slice none 0 0] 82)) w.heap.size 25 #[.slice ra n c, .slice ga m d, .bool single] ∧ Box (((w.alloc (.cells #[.slice ra n c, .slice ga m d, .bool single] 25)).alloc (.cells #[.slice none 0 0] 46)).alloc (.cells #[.slice ra n c, .slice ga m d, .bool single, .int .i64 0, .slice none 0 0, .slice none 0 0, .slice none 0 0] 82)) (w.heap.size + 1) 46 #[.slice none 0 0] ∧
      Box (((w.alloc (.cells #[.slice ra n c, .slice ga m d, .bool single] 25)).alloc (.cells #[.slice none 0 0] 46)).alloc (.cells #[.slice ra n c, .slice ga m d, .bool single, .int .i64 0, .slice none 0 0, .slice none 0 0, .slice none 0 0] 82)) (w.heap.size + 2) 82 #[.slice ra n c, .slice ga m d, .bool single, .int .i64 0, .slice none 0 0, .slice none 0 0, .slice none 0 0]) :=
    ⟨((Box.new rfl).alloc _).alloc _, (Box.new (by simp)).alloc _, Box.new (by simp)⟩
  have hzz : (w.heap.size + 1 + 1) = w.heap.size + 2 := rfl
  generalize (((w.alloc (.cells #[.slice ra n c, .slice ga m d, .bool single] 25)).alloc (.cells #[.slice none 0 0] 46)).alloc (.cells #[.slice ra n c, .slice ga m d, .bool single, .int .i64 0, .slice none 0 0, .slice none 0 0, .slice none 0 0] 82)) = w1 at *
  have HB1 := Lib.hid hb0
  clear hb0 hzz
  go_wp2_with fail
  go_loopw [4] (fun v4 wr => ∃ (i : Nat) (wa : Option Addr) (wq : Nat), v4 = .int .i64 i ∧ i ≤ m ∧ Hid (Below w.heap.size w wr) ∧ Hid (Box wr w.heap.size 25 #[.slice ra n c, .slice ga m d, .bool single] ∧ Box wr (w.heap.size + 1) 46 #[.slice none 0 0] ∧
      Box wr (w.heap.size + 2) 82 #[.slice ra n c, .slice ga m d, .bool single, .int .i64 0, .slice none 0 0, .slice wa i wq, .slice none 0 0]) ∧ Hid (wr.ownsRow w.heap.size 3 1 (.slice wa i wq) i ((List.replicate i (-2)).map (Value.int .i64))))
    (fun v4 _ => m - (intOf v4).toNat)
  case atStart => exact ⟨0, none, 0, rfl, Nat.zero_le _, HB1, HBX0, World.ownsRow_nil _ _ _ _⟩
  case round =>
    clear HB1 HBX0
    obtain ⟨i, wa, wq, rfl, hi, HBW, HBX, HOW⟩ := hrel
    have hsz : w.heap.size + 2 < wr.heap.size := lt_of_block HBX.out.2.2
    have x1 := HBX.out.1.cell 1
    have y5 := HBX.out.2.2.cell 5
    simp only [List.getElem?_toArray, List.getElem?_cons_zero, List.getElem?_cons_succ] at x1 y5
    by_cases hlt : i < m
    · obtain ⟨v', w2, hcp, ho2, hg2, hw2⟩ := push_int HOW.out HBW.out.size (by omega) (-2)
      obtain ⟨wa', wq', rfl⟩ := ownInt_shape ho2
      have HCP := Lib.hid hcp; have HO2 := Lib.hid ho2
      have hrow : ∀ q, (Value.slice wa i wq).ownBlock = some q → w.heap.size ≤ q := fun q hq => (HOW.out.lt q hq).1
      have HBW2 : Hid (Below w.heap.size w w2) := Below.grow HBW.out HBW.out.size hg2 hrow
      have HBX2 : Hid (Box w2 w.heap.size 25 #[.slice ra n c, .slice ga m d, .bool single] ∧ Box w2 (w.heap.size + 1) 46 #[.slice none 0 0] ∧
          Box w2 (w.heap.size + 2) 82 #[.slice ra n c, .slice ga m d, .bool single, .int .i64 0, .slice none 0 0, .slice wa i wq, .slice none 0 0]) :=
        ⟨HBX.out.1.grow HOW.out hg2 (by decide), HBX.out.2.1.grow HOW.out hg2 (by decide), HBX.out.2.2.grow HOW.out hg2 (by decide)⟩
      have z5 := HBX2.out.2.2.cell 5
      have zf := HBX2.out.2.2.free 5
      simp only [List.getElem?_toArray, List.getElem?_cons_zero, List.getElem?_cons_succ] at z5
      have HBX3 : Hid (Box (w2.setCell ⟨w.heap.size + 2, 5, none⟩ (.slice wa' (i + 1) wq')) w.heap.size 25 #[.slice ra n c, .slice ga m d, .bool single] ∧ Box (w2.setCell ⟨w.heap.size + 2, 5, none⟩ (.slice wa' (i + 1) wq')) (w.heap.size + 1) 46 #[.slice none 0 0] ∧
          Box (w2.setCell ⟨w.heap.size + 2, 5, none⟩ (.slice wa' (i + 1) wq')) (w.heap.size + 2) 82 #[.slice ra n c, .slice ga m d, .bool single, .int .i64 0, .slice none 0 0, .slice wa' (i + 1) wq', .slice none 0 0]) :=
        ⟨HBX2.out.1.of_heap (heap_set _ (by omega)), HBX2.out.2.1.of_heap (heap_set _ (by omega)), HBX2.out.2.2.set 5 _⟩
      have HO3 : Hid ((w2.setCell ⟨w.heap.size + 2, 5, none⟩ (.slice wa' (i + 1) wq')).ownsRow w.heap.size 3 1 (.slice wa' (i + 1) wq') (i + 1) ((List.replicate (i + 1) (-2)).map (Value.int .i64))) := by
        have h := ownInt_heap HO2.out (fun b arr h1 _ => IntKept.setBox (j := 5) HBX2.out.2.2 (.slice wa' (i + 1) wq') (by decide) b arr h1)
        rw [← List.replicate_succ'] at h
        exact h
      have HBW3 : Hid (Below w.heap.size w (w2.setCell ⟨w.heap.size + 2, 5, none⟩ (.slice wa' (i + 1) wq'))) := HBW2.out.setCell (by show w.heap.size ≤ w.heap.size + 2; omega) _
      clear hcp ho2 hg2 hw2 hrow
      go_wp2_with (at_builtin; refine wpList_run_append rfl _ _ 22 rfl 22 rfl HCP.out rfl rfl ?_)
      go_roundw
      case rel => exact ⟨i + 1, wa', wq', by go_num, by omega, HBW3, HBX3, HO3⟩
      case measure => simp [intOf]; omega
    · obtain rfl : i = m := by omega
      have y0 := HBX.out.2.2.cell 0
      have y1 := HBX.out.2.2.cell 1
      have y2 := HBX.out.2.2.cell 2
      have y3 := HBX.out.2.2.cell 3
      have y4 := HBX.out.2.2.cell 4
      have y6 := HBX.out.2.2.cell 6
      simp only [List.getElem?_toArray, List.getElem?_cons_zero, List.getElem?_cons_succ] at y0 y1 y2 y3 y4 y6
      have HOI : Hid (OwnInts wr 0 wa i (List.replicate i (-2))) := by
        obtain ⟨la, lc, e, ho⟩ := OwnInts.of_row HOW.out
        obtain ⟨rfl, rfl⟩ : wa = la ∧ wq = lc := by simpa using e
        exact ⟨ho.1, fun h => by obtain ⟨g, e, _, r⟩ := ho.2 h; exact ⟨g, e, Nat.zero_le _, r⟩⟩
      have HWB : Hid (∀ q, q < i → ix (List.replicate i (-2)) q < n) := fun q hq => by simp [ix, List.getD, hq]; omega
      have HSO : Hid (SO wr wr.heap.size (.slice none ([] : List StepT).length 0) [] []) := ⟨rfl, World.ownsRow_nil _ _ _ _, fun i hi => absurd hi (Nat.not_lt_zero _)⟩
      have HCAP : Hid (([] : List StepT).length + prvCap i ≤ 100000) := by
        have := prvCap_le i hm
        show 0 + _ ≤ _
        omega
      go_wp2_with fail
      refine (prove_any ra ga none n c i d 0 0 single 0 R G wr hn hm (HR.out.below HBW.out) (HG.out.below HBW.out) HV.out HRB.out i 0 (List.replicate i (-2)) wa wq none 0 [] [] wr (Nat.zero_add i) (Below.refl _ _) HOI.out HWB.out HSO.out HCAP.out).mono ?_
      rintro e w5 ⟨sa', sc', K', rfl, hs, hk, hg⟩
      obtain ⟨T, hT⟩ : ∃ T, ([] : List StepT) ++ prvF single R G i (List.replicate i (-2)) ([] : List StepT).length = T := ⟨_, rfl⟩
      rw [hT] at hs hg
      rw [hT]
      have HT : Hid (proveL single R G = T) := by
        show _ = _
        rw [← hT, proveL, HGL.out]; rfl
      have hb5 : Below wr.heap.size wr w5 := below_none hg.1
      have HBW5 := Lib.hid (HBW.out.trans (hb5.mono HBW.out.size))
      have HBX5 := Lib.hid ((⟨HBX.out.2.1.below hb5, HBX.out.2.2.below hb5⟩ : _ ∧ _))
      have HS5 := Lib.hid hs
      clear hT hs hk hg hb5 x1 y0 y1 y2 y3 y4 y5 y6 HOW HOI HSO HCAP HWB HBX
      unfold workV
      have y0 := HBX5.out.2.cell 0
      have y1 := HBX5.out.2.cell 1
      have y2 := HBX5.out.2.cell 2
      have y3 := HBX5.out.2.cell 3
      have y4 := HBX5.out.2.cell 4
      have y5 := HBX5.out.2.cell 5
      have y6 := HBX5.out.2.cell 6
      have yf := fun j => HBX5.out.2.free j
      simp only [List.getElem?_toArray, List.getElem?_cons_zero, List.getElem?_cons_succ] at y0 y1 y2 y3 y4 y5 y6
      go_upto_region 7 with fail
      have HBW6 := Lib.hid (below_set7 HBW5.out (g := w.heap.size + 2) (by omega) (.slice ra n c) (.slice ga i d) (.bool single) (.int .i64 0) (.slice sa' T.length sc') (.slice wa i wq) (.slice none 0 0))
      have HS6 := Lib.hid (HS5.out.set7 HBX5.out.2 (by decide) (.slice ra n c) (.slice ga i d) (.bool single) (.int .i64 0) (.slice sa' T.length sc') (.slice wa i wq) (.slice none 0 0))
      have HBX6 : Hid (Box (((((((w5.setCell ⟨w.heap.size + 2, 0, none⟩ (.slice ra n c)).setCell ⟨w.heap.size + 2, 1, none⟩ (.slice ga i d)).setCell ⟨w.heap.size + 2, 2, none⟩ (.bool single)).setCell ⟨w.heap.size + 2, 3, none⟩ (.int .i64 0)).setCell ⟨w.heap.size + 2, 4, none⟩ (.slice sa' T.length sc')).setCell ⟨w.heap.size + 2, 5, none⟩ (.slice wa i wq)).setCell ⟨w.heap.size + 2, 6, none⟩ (.slice none 0 0)) (w.heap.size + 1) 46 #[.slice none 0 0] ∧ Box (((((((w5.setCell ⟨w.heap.size + 2, 0, none⟩ (.slice ra n c)).setCell ⟨w.heap.size + 2, 1, none⟩ (.slice ga i d)).setCell ⟨w.heap.size + 2, 2, none⟩ (.bool single)).setCell ⟨w.heap.size + 2, 3, none⟩ (.int .i64 0)).setCell ⟨w.heap.size + 2, 4, none⟩ (.slice sa' T.length sc')).setCell ⟨w.heap.size + 2, 5, none⟩ (.slice wa i wq)).setCell ⟨w.heap.size + 2, 6, none⟩ (.slice none 0 0)) (w.heap.size + 2) 82 #[.slice ra n c, .slice ga i d, .bool single, .int .i64 0, .slice sa' T.length sc', .slice wa i wq, .slice none 0 0]) :=
        ⟨HBX5.out.1.of_heap (heap_set7 _ _ _ _ _ _ _ _ (by omega)), HBX5.out.2.set7 _ _ _ _ _ _ _⟩
      generalize (((((((w5.setCell ⟨w.heap.size + 2, 0, none⟩ (.slice ra n c)).setCell ⟨w.heap.size + 2, 1, none⟩ (.slice ga i d)).setCell ⟨w.heap.size + 2, 2, none⟩ (.bool single)).setCell ⟨w.heap.size + 2, 3, none⟩ (.int .i64 0)).setCell ⟨w.heap.size + 2, 4, none⟩ (.slice sa' T.length sc')).setCell ⟨w.heap.size + 2, 5, none⟩ (.slice wa i wq)).setCell ⟨w.heap.size + 2, 6, none⟩ (.slice none 0 0)) = w6 at *
      clear y0 y1 y2 y3 y4 y5 y6 yf
      have y4 := HBX6.out.2.cell 4
      have z0 := HBX6.out.1.cell 0
      have zf := HBX6.out.1.free 0
      simp only [List.getElem?_toArray, List.getElem?_cons_zero, List.getElem?_cons_succ] at y4 z0
      go_wp2_with fail
      refine bodyPost_ret (v := .agg #[.slice sa' T.length sc']) (by simp [results, Try.results33, go_sem, z0]) rfl ?_
      rw [HT.out]
      exact ⟨sa', sc', rfl, HBW6.out.setCell (by show w.heap.size ≤ w.heap.size + 1; omega) _, (HS6.out.setBox HBX6.out.1 _ (by decide)).steps rfl⟩
end Go.Proofs.Ytaomlhhlefpdeaa
