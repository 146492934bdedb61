/- A row of pairs of the call's own; foyerlaw22.FitSums: the walk (printed by wip/fsgen.py). -/
import Derived.Test.YtaomlhhlefpdeaaQFitBound25
import Derived.Test.YtaomlhhlefpdeaaQFitBound50
import Derived.Test.YtaomlhhlefpdeaaQFitBound51

namespace Go.Proofs.Ytaomlhhlefpdeaa
open Go.RowKit

theorem Box.growG {w w' : World} {b C n sz : Nat} {t e : TypeId} {vs : Array Value} {u : Value} {xs : List Value} (h : Box w b t vs) (hu : w.ownsRow C e sz u n xs) (hg : w.grownBy w' u.ownBlock) (ht : t ≠ e) : Box w' b t vs := by
  refine h.of_heap (hg.block b (lt_of_block h) (fun e => ?_))
  unfold Box at h
  rcases hu.2 with ⟨rfl, _⟩ | ⟨b', cap, cur, rfl, _, hgg, _⟩
  · simp [Value.ownBlock] at e
  · simp [Value.ownBlock] at e; subst e; rw [hgg] at h; simp at h; exact ht h.2.symm

theorem own_heap {w w' : World} {B n sz : Nat} {e : TypeId} {v : Value} {xs : List Value} (h : w.ownsRow B e sz v n xs) (k : ∀ (b : Nat) (arr : Array Value), w.heap[b]? = some (.cells arr e (0, 0)) → v.ownBlock = some b → w'.heap[b]? = w.heap[b]?) : w'.ownsRow B e sz v n xs := by
  refine ⟨h.1, ?_⟩
  rcases h.2 with hn | ⟨b, cap, cur, rfl, hbb, hgg, rest⟩
  · exact .inl hn
  · exact .inr ⟨b, cap, cur, rfl, hbb, (k b cur hgg rfl).trans hgg, rest⟩

theorem own_setBox {w : World} {B n sz g j : Nat} {t e : TypeId} {vs : Array Value} {v : Value} {xs : List Value} (h : w.ownsRow B e sz v n xs) (hb : Box w g t vs) (u : Value) (ht : t ≠ e) : (w.setCell ⟨g, j, none⟩ u).ownsRow B e sz v n xs :=
  own_heap h (fun b arr h1 _ => heap_set b (fun e => by subst e; unfold Box at hb; rw [hb] at h1; simp at h1; exact ht h1.2))

theorem own_shape {w : World} {B n sz : Nat} {e : TypeId} {v : Value} {xs : List Value} (h : w.ownsRow B e sz v n xs) : ∃ ka kc, v = .slice ka n kc := by
  rcases h.2 with ⟨rfl, h0⟩ | ⟨b, cap, cur, rfl, _⟩
  · exact ⟨none, 0, by rw [h0]⟩
  · exact ⟨_, _, rfl⟩

/-- One pair is appended to a row of the call's own. -/
theorem push_pair {w : World} {B n : Nat} {v : Value} {L : List (Int × Int)} (h : w.ownsRow B 39 2 v n (pcells L)) (hB : B ≤ w.heap.size) (hl : n ≤ 100000) (x y : Int) : ∃ v' w',
    (Builtin.append_ #[28, 28] 28 #[v, .slice (some ⟨w.heap.size, 0, none⟩) 1 1]).run Try.prog (w.alloc (.cells #[.int .i64 x, .int .i64 y] 39)) = .ok v' w' ∧
    w'.ownsRow B 39 2 v' (n + 1) (pcells (L ++ [(x, y)])) ∧ w.grownBy w' v.ownBlock := by
  obtain ⟨i0, hi, hz0, hz1, hz2⟩ := spotInfo
  have hal : Below w.heap.size w (w.alloc (.cells #[.int .i64 x, .int .i64 y] 39)) := (Below.refl _ _).alloc (Nat.le_refl _) _
  have h1 : (w.alloc (.cells #[.int .i64 x, .int .i64 y] 39)).ownsRow B 39 2 v n (pcells L) := own_heap h (fun b _ hb _ => hal.block b (lt_of_block hb))
  have hbox : Box (w.alloc (.cells #[.int .i64 x, .int .i64 y] 39)) w.heap.size 39 #[.int .i64 x, .int .i64 y] := Box.new rfl
  obtain ⟨v', w', hr, h2, h3, _, _⟩ := run_append_own_at (P := Try.prog) (w.alloc (.cells #[.int .i64 x, .int .i64 y] 39)) B 28 28 39 i0 (.agg #[.int .i64 0, .int .i64 0]) 2 16
    Try.underlying28 hi hz0 hz1 hz2 rfl (by decide) v n _ h1 ⟨w.heap.size, 0, none⟩ 1 1 [.int .i64 x, .int .i64 y] rfl
    (fun j u hj => by
      match j, hj with
      | 0, hj => simp at hj; subst hj; exact hbox.cell 0
      | 1, hj => simp at hj; subst hj; exact hbox.cell 1)
    (fun u hu => by simp at hu; rcases hu with rfl | rfl <;> rfl) (by unfold maxLen; omega) (by omega) (by simp; omega)
  exact ⟨v', w', hr, by rw [pcells_append]; exact h2, ⟨h3.os.trans hal.os, h3.tape.trans hal.tape, h3.output.trans hal.output, Nat.le_trans hal.size h3.size, fun i hi hn => (h3.block i (Nat.lt_of_lt_of_le hi hal.size) hn).trans (hal.block i hi)⟩⟩

theorem pairs_of_row {w : World} {B n yc : Nat} {ya : Option Addr} {L : List (Int × Int)} (h : w.ownsRow B 39 2 (.slice ya n yc) n (pcells L)) : Pairs w ya n L := by
  have hl : L.length = n := by have := h.1; rw [pcells_length] at this; omega
  refine ⟨hl, fun k hk => ?_⟩
  obtain ⟨g, c, e, _, _, _, r⟩ := PairRow.of_row (by omega) h
  obtain ⟨rfl, _⟩ : ya = some ⟨g, 0, none⟩ ∧ yc = c := by simpa using e
  obtain ⟨arr, h1, h2, h3⟩ := r
  obtain ⟨c1, c2⟩ := h3 k (by omega)
  exact ⟨g, 0, rfl, by simp only [World.cell?, h1, Nat.zero_add]; exact c1, by simp only [World.cell?, h1, Nat.zero_add]; exact c2⟩
end Go.Proofs.Ytaomlhhlefpdeaa

namespace Go.Proofs.Ytaomlhhlefpdeaa
open Go.RowKit Go.IntWalk

def lineB (single : Bool) (R : List Int) (G : List (Int × Int)) : Bool := decide (sumRows (gs G) G.length ≤ ix R 0) && (!single || (decide (sumRows (gs G) G.length = 0) || decide (ix R 0 - sumRows (gs G) G.length ≠ 1)))

theorem lineB_iff (single : Bool) (R : List Int) (G : List (Int × Int)) : lineB single R G = true ↔ lineFits single R G := by
  unfold lineB lineFits
  cases single <;> simp

theorem line_eq {single : Bool} {R : List Int} {G : List (Int × Int)} {q : Bool} (hv : validS R G = true) (h1 : R.length = 1) (h : q = true ↔ LegalP single R G (lineS G G.length) (sumRows (fun k => gs G k * gv G k) G.length)) : q = lineB single R G := by
  have : q = true ↔ lineB single R G = true := by
    rw [h, lineB_iff]
    exact ⟨fun hL => sums_only h1 hL (fun k hk => (spots_get _ _ k hk).1), sums_line hv h1⟩
  cases q <;> cases hb : lineB single R G <;> simp_all

theorem lineS_succ (G : List (Int × Int)) (i : Nat) : lineS G (i + 1) = lineS G i ++ [(0, sumRows (gs G) i)] := by simp [lineS, List.range_succ]

theorem sums_range {G : List (Int × Int)} (hv : ValuesOk G) : ∀ i, i ≤ G.length → (0 ≤ sumRows (gs G) i ∧ sumRows (gs G) i ≤ 12 * i) ∧ 0 ≤ sumRows (fun k => gs G k * gv G k) i ∧ sumRows (fun k => gs G k * gv G k) i ≤ 12000000 * i := by
  intro i
  induction i with
  | zero => intro _; simp [sumRows]
  | succ i ih =>
    intro h
    have a := ih (by omega)
    have hg := hv i (by omega)
    have m1 : gs G i * gv G i ≤ 12 * gv G i := Int.mul_le_mul_of_nonneg_right hg.1.2 hg.2.1
    have m0 : 0 ≤ gs G i * gv G i := Int.mul_nonneg (by omega) (by omega)
    rw [sumRows, sumRows]
    omega

/-- All spots name the run 0, of the first j. -/
def allZ (S : List (Int × Int)) (b : Bool) (j : Nat) : Bool := b && (List.range j).all fun q => gs S q == 0

theorem allZ_succ (S : List (Int × Int)) (b : Bool) (j : Nat) : allZ S b (j + 1) = (allZ S b j && (gs S j == 0)) := by
  unfold allZ; rw [List.range_succ, List.all_append]; simp [Bool.and_assoc]

set_option maxRecDepth 20000 in
set_option maxHeartbeats 6400000 in
theorem fitSums_any (ra ga sa : Option Addr) (n c m d k sc : Nat) (single : Bool) (V0 : Int) (R : List Int) (G S : List (Int × Int)) (w : World)
    (_hn : n ≤ 9223372036854775807) (_hm : m ≤ 9223372036854775807) (hk : k ≤ 9223372036854775807) (hR : Ints w ra n R) (hG : Pairs w ga m G) (hS : Pairs w sa k S) (hc : ra = none → c = 0) :
    Calls Try.prog 9 #[.agg #[.slice ra n c, .slice ga m d, .bool single], .agg #[.slice sa k sc, .int .i64 V0]] w fun e w' => e = .returned (.bool true) ∧ Below w.heap.size w w' := by
  have hb0 : Below w.heap.size w ((w.alloc (.cells #[.slice ra n c, .slice ga m d, .bool single] 25)).alloc (.cells #[.slice sa k sc, .int .i64 V0] 30)) := ((Below.refl _ _).alloc (Nat.le_refl _) _).alloc (by simp) _
  have HP0 : Hid (ProbAt ((w.alloc (.cells #[.slice ra n c, .slice ga m d, .bool single] 25)).alloc (.cells #[.slice sa k sc, .int .i64 V0] 30)) w.heap.size n m ra ga c d single R G) := ⟨(Box.new rfl).alloc _, hR.below hb0, hG.below hb0, hc⟩
  have HX0 : Hid (PackAt ((w.alloc (.cells #[.slice ra n c, .slice ga m d, .bool single] 25)).alloc (.cells #[.slice sa k sc, .int .i64 V0] 30)) (w.heap.size + 1) k sa sc S V0) := ⟨Box.new (by simp), hS.below hb0⟩
  have HGL := Lib.hid hG.1; have HRL := Lib.hid hR.1; have HSL := Lib.hid hS.1
  have HRW : Hid (Ints w ra n R ∧ Pairs w ga m G ∧ Pairs w sa k S ∧ (ra = none → c = 0)) := ⟨hR, hG, hS, hc⟩
  clear hR hG hS hc
  go_enter Try.func9, Try.ntmps9
  go_upto_region 1 with fail
  generalize ((w.alloc (.cells #[.slice ra n c, .slice ga m d, .bool single] 25)).alloc (.cells #[.slice sa k sc, .int .i64 V0] 30)) = w0 at *
  go_wp2_with fail
  refine (head22_any _).mono ?_
  rintro e w1 ⟨rfl, hb1⟩
  have HP := Lib.hid (HP0.out.below hb1); have HX := Lib.hid (HX0.out.below hb1); have HBW := Lib.hid (hb0.trans (hb1.mono hb0.size))
  clear hb0 hb1 HP0 HX0
  have p0 := HP.out.box.cell 0
  have p1 := HP.out.box.cell 1
  have p2 := HP.out.box.cell 2
  simp only [List.getElem?_toArray, List.getElem?_cons_zero, List.getElem?_cons_succ] at p0 p1 p2
  go_wp2_with fail
  refine (few_any ra ga n c m d single 40 w1).mono ?_
  rintro e w2 ⟨rfl, hb2⟩
  have HP2 := Lib.hid (HP.out.below hb2); have HX2 := Lib.hid (HX.out.below hb2); have HBW2 := Lib.hid (HBW.out.trans (hb2.mono HBW.out.size))
  clear p0 p1 p2 hb2 HP HX HBW
  by_cases hfew : n ≤ 40 ∧ m ≤ 40
  · rw [show decide (n ≤ 40 ∧ m ≤ 40) = true from decide_eq_true hfew]
    obtain ⟨hn, hm⟩ := hfew
    obtain ⟨vb, hvb⟩ : ∃ b, validS R G = b := ⟨_, rfl⟩
    have HVB := Lib.hid hvb
    clear hvb
    have p0 := HP2.out.box.cell 0
    have p1 := HP2.out.box.cell 1
    have p2 := HP2.out.box.cell 2
    simp only [List.getElem?_toArray, List.getElem?_cons_zero, List.getElem?_cons_succ] at p0 p1 p2
    go_wp2_with fail
    refine (valid_any ra ga n c m d single vb R G w2 (by omega) (by omega) HP2.out.runs HP2.out.groups HVB.out).mono ?_
    rintro e w3 ⟨rfl, hb3⟩
    have HP3 := Lib.hid (HP2.out.below hb3); have HX3 := Lib.hid (HX2.out.below hb3); have HBW3 := Lib.hid (HBW2.out.trans (hb3.mono HBW2.out.size))
    clear p0 p1 p2 hb3 HP2 HX2 HBW2
    have p0 := HP3.out.box.cell 0
    have p1 := HP3.out.box.cell 1
    have p2 := HP3.out.box.cell 2
    have y0 := HX3.out.box.cell 0
    simp only [List.getElem?_toArray, List.getElem?_cons_zero, List.getElem?_cons_succ] at p0 p1 p2 y0
    cases vb
    · go_wp2_with fail
      go_ret
      exact ⟨rfl, HBW3.out⟩
    · by_cases hn1 : n = 1
      · have t1 : ((n : Int) != 1) = false := by simp; omega
        by_cases hk60 : 60 < k
        · have e1 : decide ((60 : Int) < (k : Int)) = true := by simp; omega
          go_wp2_with fail
          go_ret
          exact ⟨rfl, HBW3.out⟩
        · have e1 : decide ((60 : Int) < (k : Int)) = false := by simp; omega
          have HR1 : Hid (R.length = 1) := by show _ = _; rw [HRL.out]; exact hn1
          have hn1' : 1 ≤ n := by omega
          have hn2 : n ≤ 1 := by omega
          clear hn1
          have hb : Below w3.heap.size w3 (w3.alloc (.cells #[.slice none 0 0, .int .i64 0] 30)) := al _ _
          have HY : Hid (Box (w3.alloc (.cells #[.slice none 0 0, .int .i64 0] 30)) w3.heap.size 30 #[.slice none 0 0, .int .i64 0]) := Box.new rfl
          have HB4 : Hid (Box (w3.alloc (.cells #[.slice none 0 0, .int .i64 0] 30)) w.heap.size 25 #[.slice ra n c, .slice ga m d, .bool single] ∧ Box (w3.alloc (.cells #[.slice none 0 0, .int .i64 0] 30)) (w.heap.size + 1) 30 #[.slice sa k sc, .int .i64 V0]) := ⟨HP3.out.box.below hb, HX3.out.box.below hb⟩
          have HBW4 := Lib.hid (HBW3.out.trans (hb.mono HBW3.out.size))
          have hs3 : w.heap.size + 1 < w3.heap.size := lt_of_block HX3.out.box
          clear hb HP3 HX3 HBW3
          go_upto_region 5 with fail
          generalize (w3.alloc (.cells #[.slice none 0 0, .int .i64 0] 30)) = w4 at *
          obtain ⟨yb, hyb⟩ : ∃ x, w3.heap.size = x := ⟨_, rfl⟩
          simp only [hyb] at HY hs3 ⊢
          clear hyb p0 p1 p2 y0
          have HVP := Lib.hid (validS_parts HVB.out).2.2
          have HSR := Lib.hid (sums_range HVP.out)
          have hw4 : w.heap.size ≤ w4.heap.size := HBW4.out.size
          go_wp2_with fail
          go_loopw [7, 8] (fun v7 v8 wr => ∃ (i : Nat) (N : Int) (ya : Option Addr) (yc : Nat) (V : Int), v8 = .int .i64 i ∧ v7 = .int .i64 N ∧ i ≤ m ∧ 0 ≤ N ∧ N ≤ 12 * i ∧ 0 ≤ V ∧ V ≤ 12000000 * i ∧ Hid (sumRows (gs G) i = N) ∧ Hid (sumRows (fun k => gs G k * gv G k) i = V) ∧
              Hid (Box wr yb 30 #[.slice ya i yc, .int .i64 V]) ∧ Hid (wr.ownsRow w4.heap.size 39 2 (.slice ya i yc) i (pcells (lineS G i))) ∧ Hid (Below w.heap.size w wr) ∧
              Hid (Box wr w.heap.size 25 #[.slice ra n c, .slice ga m d, .bool single] ∧ Box wr (w.heap.size + 1) 30 #[.slice sa k sc, .int .i64 V0]) ∧ Hid (w4.heap.size ≤ wr.heap.size))
            (fun _ v8 _ => m - (intOf v8).toNat)
          case atStart => exact ⟨0, 0, none, 0, 0, rfl, rfl, Nat.zero_le _, by omega, by omega, by omega, by omega, rfl, rfl, HY, World.ownsRow_nil _ _ _ _, HBW4, HB4, Nat.le_refl _⟩
          case round =>
            clear HY HB4 HBW4
            obtain ⟨i, N, ya, yc, V, rfl, rfl, hi, hN0, hN1, hV0, hV1, HN, HV, HY, HO, HBW, HBX, HZ⟩ := hrel
            have pt := HBX.out.1.cell 1
            simp only [List.getElem?_toArray, List.getElem?_cons_zero, List.getElem?_cons_succ] at pt
            by_cases hlt : i < m
            · have hgg := HVP.out i (by rw [HGL.out]; exact hlt)
              obtain ⟨gb, go, rfl, d1, d2⟩ := HRW.out.2.1.2 i hlt
              obtain ⟨s, hs⟩ : ∃ x, gs G i = x := ⟨_, rfl⟩
              obtain ⟨v, hv⟩ : ∃ x, gv G i = x := ⟨_, rfl⟩
              rw [hs] at d1 hgg; rw [hv] at d2 hgg
              have HD := Lib.hid ((⟨d1, d2⟩ : _ ∧ _))
              have HN' : Hid (sumRows (gs G) (i + 1) = N + s) := by show _ = _; rw [sumRows, HN.out, hs]
              have HV' : Hid (sumRows (fun k => gs G k * gv G k) (i + 1) = V + s * v) := by show _ = _; rw [sumRows, HV.out, hs, hv]
              have m0 : 0 ≤ s * v := Int.mul_nonneg (by omega) (by omega)
              have m1 : s * v ≤ 12 * v := Int.mul_le_mul_of_nonneg_right hgg.1.2 hgg.2.1
              have m2 : s * v ≤ 12000000 := by omega
              clear hs hv d1 d2 m1
              obtain ⟨v', w5, hcp, ho5, hg5⟩ := push_pair HO.out HZ.out (by omega) 0 N
              obtain ⟨ya', yc', rfl⟩ := own_shape ho5
              have HCP := Lib.hid hcp
              have hrow : ∀ q, (Value.slice ya i yc).ownBlock = some q → w.heap.size ≤ q := fun q hq => Nat.le_trans hw4 (HO.out.lt q hq).1
              have HBW5 : Hid (Below w.heap.size w w5) := Below.grow HBW.out HBW.out.size hg5 hrow
              have HY5 : Hid (Box w5 yb 30 #[.slice ya i yc, .int .i64 V]) := HY.out.growG HO.out hg5 (by decide)
              have HBX5 : Hid (Box w5 w.heap.size 25 #[.slice ra n c, .slice (some ⟨gb, go, none⟩) m d, .bool single] ∧ Box w5 (w.heap.size + 1) 30 #[.slice sa k sc, .int .i64 V0]) := ⟨HBX.out.1.growG HO.out hg5 (by decide), HBX.out.2.growG HO.out hg5 (by decide)⟩
              have HLS : Hid (lineS G (i + 1) = lineS G i ++ [(0, N)]) := by show _ = _; rw [lineS_succ, HN.out]
              have HO5 : Hid (w5.ownsRow w4.heap.size 39 2 (.slice ya' (i + 1) yc') (i + 1) (pcells (lineS G (i + 1)))) := by rw [HLS.out]; exact ho5
              have HZ5 : Hid (w4.heap.size ≤ w5.heap.size) := Nat.le_trans HZ.out hg5.size
              have y0 := HY.out.cell 0
              have z0 := HY5.out.cell 0
              have zf := HY5.out.free 0
              simp only [List.getElem?_toArray, List.getElem?_cons_zero, List.getElem?_cons_succ] at y0 z0
              clear hcp ho5 hg5 hrow
              go_upto_region 10 with (at_builtin; refine wpList_run_append rfl _ _ 28 rfl 28 rfl HCP.out rfl rfl ?_)
              have HY6 : Hid (Box (w5.setCell ⟨yb, 0, none⟩ (.slice ya' (i + 1) yc')) yb 30 #[.slice ya' (i + 1) yc', .int .i64 V]) := HY5.out.set 0 _
              have HBX6 : Hid (Box (w5.setCell ⟨yb, 0, none⟩ (.slice ya' (i + 1) yc')) w.heap.size 25 #[.slice ra n c, .slice (some ⟨gb, go, none⟩) m d, .bool single] ∧ Box (w5.setCell ⟨yb, 0, none⟩ (.slice ya' (i + 1) yc')) (w.heap.size + 1) 30 #[.slice sa k sc, .int .i64 V0]) := ⟨HBX5.out.1.of_heap (heap_set _ (by omega)), HBX5.out.2.of_heap (heap_set _ (by omega))⟩
              have HO6 : Hid ((w5.setCell ⟨yb, 0, none⟩ (.slice ya' (i + 1) yc')).ownsRow w4.heap.size 39 2 (.slice ya' (i + 1) yc') (i + 1) (pcells (lineS G (i + 1)))) := own_setBox HO5.out HY5.out _ (by decide)
              have HBW6 : Hid (Below w.heap.size w (w5.setCell ⟨yb, 0, none⟩ (.slice ya' (i + 1) yc'))) := HBW5.out.setCell (by show w.heap.size ≤ yb; omega) _
              have HZ6 : Hid (w4.heap.size ≤ (w5.setCell ⟨yb, 0, none⟩ (.slice ya' (i + 1) yc')).heap.size) := by have := HZ5.out; show _ ≤ _; simpa [World.setCell] using this
              generalize (w5.setCell ⟨yb, 0, none⟩ (.slice ya' (i + 1) yc')) = w6 at *
              clear pt y0 z0 zf HY5 HBX5 HO5 HBW5 HZ5 HCP HY HO HBW HBX HZ
              have p1 := HBX6.out.1.cell 1
              have y1 := HY6.out.cell 1
              have yf := HY6.out.free 1
              have d1 := Below.cell_of HBW6.out HD.out.1
              have d2 := Below.cell_of HBW6.out HD.out.2
              simp only [List.getElem?_toArray, List.getElem?_cons_zero, List.getElem?_cons_succ] at p1 y1
              have hw1 : wrap64 (s * v) = s * v := wrap64_in _ (by omega)
              have hw2 : wrap64 (V + s * v) = V + s * v := wrap64_in _ (by omega)
              have HFIN : Hid (Box (w6.setCell ⟨yb, 1, none⟩ (.int .i64 (V + s * v))) yb 30 #[.slice ya' (i + 1) yc', .int .i64 (V + s * v)] ∧ (w6.setCell ⟨yb, 1, none⟩ (.int .i64 (V + s * v))).ownsRow w4.heap.size 39 2 (.slice ya' (i + 1) yc') (i + 1) (pcells (lineS G (i + 1))) ∧
                  Below w.heap.size w (w6.setCell ⟨yb, 1, none⟩ (.int .i64 (V + s * v))) ∧ (Box (w6.setCell ⟨yb, 1, none⟩ (.int .i64 (V + s * v))) w.heap.size 25 #[.slice ra n c, .slice (some ⟨gb, go, none⟩) m d, .bool single] ∧ Box (w6.setCell ⟨yb, 1, none⟩ (.int .i64 (V + s * v))) (w.heap.size + 1) 30 #[.slice sa k sc, .int .i64 V0]) ∧ w4.heap.size ≤ (w6.setCell ⟨yb, 1, none⟩ (.int .i64 (V + s * v))).heap.size) :=
                ⟨HY6.out.set 1 _, own_setBox HO6.out HY6.out _ (by decide), HBW6.out.setCell (by show w.heap.size ≤ yb; omega) _, ⟨HBX6.out.1.of_heap (heap_set _ (by omega)), HBX6.out.2.of_heap (heap_set _ (by omega))⟩, by have := HZ6.out; simpa [World.setCell] using this⟩
              clear HY6 HBX6 HO6 HBW6 HZ6
              go_upto_region 11 with fail
              go_region
              all_goals
                go_wp2_with fail
                go_roundw
                case rel => exact ⟨i + 1, N + s, ya', yc', V + s * v, by go_num, rfl, by omega, by omega, by omega, by omega, by omega, HN', HV', HFIN.out.1, HFIN.out.2.1, HFIN.out.2.2.1.trans (((Below.refl _ _).drew).mono HFIN.out.2.2.1.size), HFIN.out.2.2.2.1, HFIN.out.2.2.2.2⟩
                case measure => simp [intOf]; omega
            · obtain rfl : i = m := by omega
              clear pt
              obtain ⟨rb, ro, rfl, r1⟩ := (HRW.out.1.below HBW.out).2 0 (by omega)
              rw [Nat.add_zero] at r1
              obtain ⟨z, hz⟩ : ∃ x, ix R 0 = x := ⟨_, rfl⟩
              rw [hz] at r1
              have HLB : Hid (lineB single R G = (decide (N ≤ z) && (!single || (decide (N = 0) || decide (z - N ≠ 1))))) := by
                show _ = _
                have h := HN.out
                unfold lineB
                rw [HGL.out, h, hz]
              have HZR : Hid (1 ≤ z ∧ z ≤ 4000) := by have := (runsOk_sum R 4000 (by omega) (validS_parts HVB.out).1).2.2 0 (by rw [HR1.out]; omega); rw [hz] at this; exact this
              have hzr := HZR.out
              have h0n : 0 < n := by omega
              clear hz
              have p0 := HBX.out.1.cell 0
              have p1 := HBX.out.1.cell 1
              have p2 := HBX.out.1.cell 2
              have y0 := HBX.out.2.cell 0
              simp only [List.getElem?_toArray, List.getElem?_cons_zero, List.getElem?_cons_succ] at p0 p1 p2 y0
              go_upto_region 12 with fail
              go_cut [9] (fun v9 wx => v9 = .bool (lineB single R G) ∧ Hid (wr = wx))
              case first =>
                have hlb := HLB.out
                by_cases hle : N ≤ z
                · have e2 : decide (N ≤ z) = true := by simp; exact hle
                  cases single
                  · rw [e2] at hlb
                    simp only [Bool.not_false, Bool.true_or, Bool.and_self] at hlb
                    have HLB2 := Lib.hid hlb
                    clear hlb
                    go_wp2_with fail
                    go_meet
                    case rel => exact ⟨by rw [HLB2.out], rfl⟩
                  · by_cases hN : N = 0
                    · have e3 : (N == 0) = true := by simp; exact hN
                      rw [e2, show decide (N = 0) = true from decide_eq_true hN] at hlb
                      simp only [Bool.not_true, Bool.true_or, Bool.false_or, Bool.and_self] at hlb
                      have HLB2 := Lib.hid hlb
                      clear hlb hN
                      go_wp2_with fail
                      go_meet
                      case rel => exact ⟨by rw [HLB2.out], rfl⟩
                    · have e3 : (N == 0) = false := by simp; exact hN
                      obtain ⟨b4, e4⟩ : ∃ b, (z - N != 1) = b := ⟨_, rfl⟩
                      rw [e2, show decide (N = 0) = false from decide_eq_false hN, show decide (z - N ≠ 1) = b4 from by rw [← e4]; by_cases h : z - N = 1 <;> simp [h]] at hlb
                      simp only [Bool.not_true, Bool.false_or, Bool.true_and] at hlb
                      have HLB2 := Lib.hid hlb
                      clear hlb hN
                      go_wp2_with fail
                      go_meet
                      case rel => exact ⟨by rw [HLB2.out], rfl⟩
                · have e2 : decide (N ≤ z) = false := by simp; omega
                  rw [e2, Bool.false_and] at hlb
                  have HLB2 := Lib.hid hlb
                  clear hlb
                  go_wp2_with fail
                  go_meet
                  case rel => exact ⟨by rw [HLB2.out], rfl⟩
              case rest =>
                obtain ⟨rfl, HWX⟩ := hcut
                have hwx := HWX.out
                subst hwx
                obtain ⟨fb, hfb⟩ : ∃ b, lineB single R G = b := ⟨_, rfl⟩
                rw [hfb]
                have HFB := Lib.hid hfb
                obtain ⟨ab, hab⟩ : ∃ b, ((k : Int) == (i : Int)) = b := ⟨_, rfl⟩
                have hab2 : ab = true → k = i := fun h => by rw [h] at hab; have := eq_of_beq hab; omega
                have HAB2 := Lib.hid hab2
                clear hfb HLB hab2
                go_wp2_with fail
                go_loop [10, 11] (fun v10 v11 => ∃ j : Nat, v11 = .int .i64 j ∧ j ≤ k ∧ v10 = .bool (allZ S ab j)) (fun _ v11 => k - (intOf v11).toNat)
                case atStart => exact ⟨0, rfl, Nat.zero_le _, by simp [allZ]⟩
                case round =>
                  obtain ⟨j, rfl, hj, rfl⟩ := hrel
                  by_cases hjk : j < k
                  · obtain ⟨sb, so, rfl, s1, _⟩ := (HRW.out.2.2.1.below HBW.out).2 j hjk
                    obtain ⟨t, ht⟩ : ∃ x, gs S j = x := ⟨_, rfl⟩
                    rw [ht] at s1
                    obtain ⟨tb, htb⟩ : ∃ b, (t == 0) = b := ⟨_, rfl⟩
                    have HA : Hid (allZ S ab (j + 1) = (allZ S ab j && tb)) := by show _ = _; rw [allZ_succ, ht, htb]
                    obtain ⟨az, haz⟩ : ∃ b, allZ S ab j = b := ⟨_, rfl⟩
                    rw [haz] at HA ⊢
                    clear ht haz
                    cases az
                    · rw [Bool.false_and] at HA
                      go_wp2_with fail
                      go_round
                      case rel => exact ⟨j + 1, by go_num, by omega, by rw [HA.out]⟩
                      case measure => simp [intOf]; omega
                    · rw [Bool.true_and] at HA
                      go_wp2_with fail
                      go_round
                      case rel => exact ⟨j + 1, by go_num, by omega, by rw [HA.out]⟩
                      case measure => simp [intOf]; omega
                  · obtain rfl : j = k := by omega
                    obtain ⟨al', hal⟩ : ∃ b, allZ S ab j = b := ⟨_, rfl⟩
                    rw [hal]
                    have HAL := Lib.hid hal
                    clear hal hab
                    have q0 := HY.out.cell 0
                    have q1 := HY.out.cell 1
                    simp only [List.getElem?_toArray, List.getElem?_cons_zero, List.getElem?_cons_succ] at q0 q1
                    go_wp2_with fail
                    refine (legal_any (some ⟨rb, ro, none⟩) ga ya n c i d i yc single V R G (lineS G i) wr (by omega) (by omega) (by omega) (HRW.out.1.below HBW.out) (HRW.out.2.1.below HBW.out) (pairs_of_row HO.out)).mono ?_
                    rintro e w7 ⟨q, rfl, hb7, hq⟩
                    have hqf : q = fb := (line_eq HVB.out HR1.out (by rw [HGL.out, HV.out]; exact hq)).trans HFB.out
                    subst hqf
                    have HBW7 := Lib.hid (HBW.out.trans (hb7.mono HBW.out.size))
                    have HBX7 : Hid (Box w7 w.heap.size 25 #[.slice (some ⟨rb, ro, none⟩) n c, .slice ga i d, .bool single] ∧ Box w7 (w.heap.size + 1) 30 #[.slice sa j sc, .int .i64 V0]) := ⟨HBX.out.1.below hb7, HBX.out.2.below hb7⟩
                    clear p0 p1 p2 y0 q0 q1 r1 hq hb7 HY HO HBX HBW
                    cases q
                    · cases al'
                      · go_wp2_with fail
                        go_ret
                        exact ⟨rfl, HBW7.out⟩
                      · have p0 := HBX7.out.1.cell 0
                        have p1 := HBX7.out.1.cell 1
                        have p2 := HBX7.out.1.cell 2
                        have y0 := HBX7.out.2.cell 0
                        have y1 := HBX7.out.2.cell 1
                        simp only [List.getElem?_toArray, List.getElem?_cons_zero, List.getElem?_cons_succ] at p0 p1 p2 y0 y1
                        go_wp2_with fail
                        refine (legal_any (some ⟨rb, ro, none⟩) ga sa n c i d j sc single V0 R G S w7 (by omega) (by omega) (by omega) (HRW.out.1.below HBW7.out) (HRW.out.2.1.below HBW7.out) (HRW.out.2.2.1.below HBW7.out)).mono ?_
                        rintro e w8 ⟨q2, rfl, hb8, hq2⟩
                        have hq3 : q2 = false := by
                          cases q2
                          · rfl
                          · exfalso
                            have hz := HAL.out
                            unfold allZ at hz
                            rw [Bool.and_eq_true, List.all_eq_true] at hz
                            have hji := HAB2.out hz.1
                            have := sums_only HR1.out (hq2.mp rfl) (fun x hx => by
                              have := hz.2 x (List.mem_range.mpr (by rw [HGL.out] at hx; omega))
                              simpa using this)
                            rw [← lineB_iff, HFB.out] at this
                            exact absurd this (by simp)
                        subst hq3
                        have HBW8 := Lib.hid (HBW7.out.trans (hb8.mono HBW7.out.size))
                        clear hq2 hb8 p0 p1 p2 y0 y1
                        go_wp2_with fail
                        go_ret
                        exact ⟨rfl, HBW8.out⟩
                    · go_wp2_with fail
                      go_ret
                      exact ⟨rfl, HBW7.out⟩
      · have t1 : ((n : Int) != 1) = true := by simp; omega
        go_wp2_with fail
        go_ret
        exact ⟨rfl, HBW3.out⟩
  · rw [show decide (n ≤ 40 ∧ m ≤ 40) = false from decide_eq_false hfew]
    go_wp2_with fail
    go_ret
    exact ⟨rfl, HBW2.out⟩
end Go.Proofs.Ytaomlhhlefpdeaa
