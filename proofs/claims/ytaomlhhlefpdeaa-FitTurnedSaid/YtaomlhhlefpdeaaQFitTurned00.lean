/- A row of pairs of the call's own; foyerlaw22.FitTurned: the walk (printed by wip/ftgen.py). -/
import Derived.Test.YtaomlhhlefpdeaaQFitBound25
import Derived.Test.YtaomlhhlefpdeaaQFitBound50
import Derived.Test.YtaomlhhlefpdeaaQFitBound51
import Derived.BigRegion

namespace Go.Proofs.Ytaomlhhlefpdeaa
open Go.RowKit

theorem Box.growG {w w' : World} {b C n sz : Nat} {t e : TypeId} {vs : Array Value} {u : Value} {xs : List Value} (h : Box w b t vs) (hu : w.ownsRow C e sz u n xs) (hg : w.grownBy w' u.ownBlock) (ht : t ≠ e) : Box w' b t vs := by
  refine h.of_heap (hg.block b (lt_of_block h) (fun e => ?_))
  unfold Box at h
  rcases hu.2 with ⟨rfl, _⟩ | ⟨b', cap, cur, rfl, _, hgg, _⟩
  · simp [Value.ownBlock] at e
  · simp [Value.ownBlock] at e; subst e; rw [hgg] at h; simp at h; exact ht h.2.symm

theorem own_heap {w w' : World} {B n sz : Nat} {e : TypeId} {v : Value} {xs : List Value} (h : w.ownsRow B e sz v n xs) (k : ∀ (b : Nat) (arr : Array Value), w.heap[b]? = some (.cells arr e (0, 0)) → v.ownBlock = some b → w'.heap[b]? = w.heap[b]?) : w'.ownsRow B e sz v n xs := by
  refine ⟨h.1, ?_⟩
  rcases h.2 with hn | ⟨b, cap, cur, rfl, hbb, hgg, rest⟩
  · exact .inl hn
  · exact .inr ⟨b, cap, cur, rfl, hbb, (k b cur hgg rfl).trans hgg, rest⟩

theorem own_setBox {w : World} {B n sz g j : Nat} {t e : TypeId} {vs : Array Value} {v : Value} {xs : List Value} (h : w.ownsRow B e sz v n xs) (hb : Box w g t vs) (u : Value) (ht : t ≠ e) : (w.setCell ⟨g, j, none⟩ u).ownsRow B e sz v n xs :=
  own_heap h (fun b arr h1 _ => heap_set b (fun e => by subst e; unfold Box at hb; rw [hb] at h1; simp at h1; exact ht h1.2))

theorem own_shape {w : World} {B n sz : Nat} {e : TypeId} {v : Value} {xs : List Value} (h : w.ownsRow B e sz v n xs) : ∃ ka kc, v = .slice ka n kc := by
  rcases h.2 with ⟨rfl, h0⟩ | ⟨b, cap, cur, rfl, _⟩
  · exact ⟨none, 0, by rw [h0]⟩
  · exact ⟨_, _, rfl⟩

/-- One pair is appended to a row of the call's own. -/
theorem push_pair {w : World} {B n : Nat} {v : Value} {L : List (Int × Int)} (h : w.ownsRow B 39 2 v n (pcells L)) (hB : B ≤ w.heap.size) (hl : n ≤ 100000) (x y : Int) : ∃ v' w',
    (Builtin.append_ #[28, 28] 28 #[v, .slice (some ⟨w.heap.size, 0, none⟩) 1 1]).run Try.prog (w.alloc (.cells #[.int .i64 x, .int .i64 y] 39)) = .ok v' w' ∧
    w'.ownsRow B 39 2 v' (n + 1) (pcells (L ++ [(x, y)])) ∧ w.grownBy w' v.ownBlock := by
  obtain ⟨i0, hi, hz0, hz1, hz2⟩ := spotInfo
  have hal : Below w.heap.size w (w.alloc (.cells #[.int .i64 x, .int .i64 y] 39)) := (Below.refl _ _).alloc (Nat.le_refl _) _
  have h1 : (w.alloc (.cells #[.int .i64 x, .int .i64 y] 39)).ownsRow B 39 2 v n (pcells L) := own_heap h (fun b _ hb _ => hal.block b (lt_of_block hb))
  have hbox : Box (w.alloc (.cells #[.int .i64 x, .int .i64 y] 39)) w.heap.size 39 #[.int .i64 x, .int .i64 y] := Box.new rfl
  obtain ⟨v', w', hr, h2, h3, _, _⟩ := run_append_own_at (P := Try.prog) (w.alloc (.cells #[.int .i64 x, .int .i64 y] 39)) B 28 28 39 i0 (.agg #[.int .i64 0, .int .i64 0]) 2 16
    Try.underlying28 hi hz0 hz1 hz2 rfl (by decide) v n _ h1 ⟨w.heap.size, 0, none⟩ 1 1 [.int .i64 x, .int .i64 y] rfl
    (fun j u hj => by
      match j, hj with
      | 0, hj => simp at hj; subst hj; exact hbox.cell 0
      | 1, hj => simp at hj; subst hj; exact hbox.cell 1)
    (fun u hu => by simp at hu; rcases hu with rfl | rfl <;> rfl) (by unfold maxLen; omega) (by omega) (by simp; omega)
  exact ⟨v', w', hr, by rw [pcells_append]; exact h2, ⟨h3.os.trans hal.os, h3.tape.trans hal.tape, h3.output.trans hal.output, Nat.le_trans hal.size h3.size, fun i hi hn => (h3.block i (Nat.lt_of_lt_of_le hi hal.size) hn).trans (hal.block i hi)⟩⟩

theorem pairs_of_row {w : World} {B n yc : Nat} {ya : Option Addr} {L : List (Int × Int)} (h : w.ownsRow B 39 2 (.slice ya n yc) n (pcells L)) : Pairs w ya n L := by
  have hl : L.length = n := by have := h.1; rw [pcells_length] at this; omega
  refine ⟨hl, fun k hk => ?_⟩
  obtain ⟨g, c, e, _, _, _, r⟩ := PairRow.of_row (by omega) h
  obtain ⟨rfl, _⟩ : ya = some ⟨g, 0, none⟩ ∧ yc = c := by simpa using e
  obtain ⟨arr, h1, h2, h3⟩ := r
  obtain ⟨c1, c2⟩ := h3 k (by omega)
  exact ⟨g, 0, rfl, by simp only [World.cell?, h1, Nat.zero_add]; exact c1, by simp only [World.cell?, h1, Nat.zero_add]; exact c2⟩
end Go.Proofs.Ytaomlhhlefpdeaa

namespace Go.Proofs.Ytaomlhhlefpdeaa
open Go.RowKit Go.IntWalk

/-- The first i spots, turned. -/
def turnP (R : List Int) (G S : List (Int × Int)) (i : Nat) : List (Int × Int) := (List.range i).map (turnAt R G S)

theorem turnP_succ (R : List Int) (G S : List (Int × Int)) (i : Nat) : turnP R G S (i + 1) = turnP R G S i ++ [turnAt R G S i] := by simp [turnP, List.range_succ]

theorem turn_eq {single : Bool} {R : List Int} {G S : List (Int × Int)} {V : Int} {k : Nat} {p q : Bool} (hk : S.length = k) (h1 : p = true ↔ LegalP single R G S V) (h2 : q = true ↔ LegalP single R G (turnP R G S k) V) : p = q := by
  have e : turnP R G S k = turned R G S := by rw [← hk]; rfl
  rw [e, ← turned_iff, ← h1] at h2
  cases p <;> cases q <;> simp_all

theorem turn_bad {single : Bool} {R : List Int} {G S : List (Int × Int)} {V : Int} {i : Nat} {q : Bool} (hv : validS R G = true) (h : q = true ↔ LegalP single R G S V) (hi : i < G.length) (h0 : 0 ≤ gs S i ∧ gs S i < R.length) (hf : gv S i < 0 ∨ 4000 < gv S i) : q = false := by
  cases q
  · rfl
  · exfalso
    obtain ⟨_, _, hs, _⟩ := (legal_iff ..).mp (h.mp rfl)
    have hp := validS_parts hv
    have := (runsOk_sum R 4000 (by omega) hp.1).2.2 (gs S i).toNat (by omega)
    have := (hp.2.2 i hi).1
    rcases hs i hi with a | b
    · omega
    · unfold badSpot at b; omega

set_option maxRecDepth 20000 in
set_option maxHeartbeats 6400000 in
theorem fitTurned_any (ra ga sa : Option Addr) (n c m d k sc : Nat) (single : Bool) (V0 : Int) (R : List Int) (G S : List (Int × Int)) (w : World)
    (_hn : n ≤ 9223372036854775807) (_hm : m ≤ 9223372036854775807) (hk : k ≤ 9223372036854775807) (hR : Ints w ra n R) (hG : Pairs w ga m G) (hS : Pairs w sa k S) (hc : ra = none → c = 0) :
    Calls Try.prog 14 #[.agg #[.slice ra n c, .slice ga m d, .bool single], .agg #[.slice sa k sc, .int .i64 V0]] w fun e w' => e = .returned (.bool true) ∧ Below w.heap.size w w' := by
  have hb0 : Below w.heap.size w ((w.alloc (.cells #[.slice ra n c, .slice ga m d, .bool single] 25)).alloc (.cells #[.slice sa k sc, .int .i64 V0] 30)) := ((Below.refl _ _).alloc (Nat.le_refl _) _).alloc (by simp) _
  have HP0 : Hid (ProbAt ((w.alloc (.cells #[.slice ra n c, .slice ga m d, .bool single] 25)).alloc (.cells #[.slice sa k sc, .int .i64 V0] 30)) w.heap.size n m ra ga c d single R G) := ⟨(Box.new rfl).alloc _, hR.below hb0, hG.below hb0, hc⟩
  have HX0 : Hid (PackAt ((w.alloc (.cells #[.slice ra n c, .slice ga m d, .bool single] 25)).alloc (.cells #[.slice sa k sc, .int .i64 V0] 30)) (w.heap.size + 1) k sa sc S V0) := ⟨Box.new (by simp), hS.below hb0⟩
  have HGL := Lib.hid hG.1; have HRL := Lib.hid hR.1; have HSL := Lib.hid hS.1
  have HRW : Hid (Ints w ra n R ∧ Pairs w ga m G ∧ Pairs w sa k S ∧ (ra = none → c = 0)) := ⟨hR, hG, hS, hc⟩
  clear hR hG hS hc
  go_enter Try.func14, Try.ntmps14
  go_upto_region 1 with fail
  generalize ((w.alloc (.cells #[.slice ra n c, .slice ga m d, .bool single] 25)).alloc (.cells #[.slice sa k sc, .int .i64 V0] 30)) = w0 at *
  go_wp2_with fail
  refine (head22_any _).mono ?_
  rintro e w1 ⟨rfl, hb1⟩
  have HP := Lib.hid (HP0.out.below hb1); have HX := Lib.hid (HX0.out.below hb1); have HBW := Lib.hid (hb0.trans (hb1.mono hb0.size))
  clear hb0 hb1 HP0 HX0
  have p0 := HP.out.box.cell 0
  have p1 := HP.out.box.cell 1
  have p2 := HP.out.box.cell 2
  simp only [List.getElem?_toArray, List.getElem?_cons_zero, List.getElem?_cons_succ] at p0 p1 p2
  go_wp2_with fail
  refine (few_any ra ga n c m d single 40 w1).mono ?_
  rintro e w2 ⟨rfl, hb2⟩
  have HP2 := Lib.hid (HP.out.below hb2); have HX2 := Lib.hid (HX.out.below hb2); have HBW2 := Lib.hid (HBW.out.trans (hb2.mono HBW.out.size))
  clear p0 p1 p2 hb2 HP HX HBW
  by_cases hfew : n ≤ 40 ∧ m ≤ 40
  · rw [show decide (n ≤ 40 ∧ m ≤ 40) = true from decide_eq_true hfew]
    obtain ⟨hn, hm⟩ := hfew
    have y0 := HX2.out.box.cell 0
    have p0 := HP2.out.box.cell 0
    have p1 := HP2.out.box.cell 1
    have p2 := HP2.out.box.cell 2
    simp only [List.getElem?_toArray, List.getElem?_cons_zero, List.getElem?_cons_succ] at y0 p0 p1 p2
    by_cases hk60 : 60 < k
    · have e1 : decide ((60 : Int) < (k : Int)) = true := by simp; omega
      go_wp2_with fail
      go_ret
      exact ⟨rfl, HBW2.out⟩
    · have e1 : decide ((60 : Int) < (k : Int)) = false := by simp; omega
      obtain ⟨vb, hvb⟩ : ∃ b, validS R G = b := ⟨_, rfl⟩
      have HVB := Lib.hid hvb
      clear hvb
      go_wp2_with fail
      refine (valid_any ra ga n c m d single vb R G w2 (by omega) (by omega) HP2.out.runs HP2.out.groups HVB.out).mono ?_
      rintro e w3 ⟨rfl, hb3⟩
      have HP3 := Lib.hid (HP2.out.below hb3); have HX3 := Lib.hid (HX2.out.below hb3); have HBW3 := Lib.hid (HBW2.out.trans (hb3.mono HBW2.out.size))
      clear y0 p0 p1 p2 hb3 HP2 HX2 HBW2
      have p1 := HP3.out.box.cell 1
      have y0 := HX3.out.box.cell 0
      have y1 := HX3.out.box.cell 1
      simp only [List.getElem?_toArray, List.getElem?_cons_zero, List.getElem?_cons_succ] at p1 y0 y1
      cases vb
      · go_wp2_with fail
        go_ret
        exact ⟨rfl, HBW3.out⟩
      · by_cases hkm : m = k
        · have t1 : ((k : Int) != (m : Int)) = false := by simp; omega
          subst hkm
          have hb : Below w3.heap.size w3 (w3.alloc (.cells #[.slice none 0 0, .int .i64 V0] 30)) := al _ _
          have HY : Hid (Box (w3.alloc (.cells #[.slice none 0 0, .int .i64 V0] 30)) w3.heap.size 30 #[.slice none 0 0, .int .i64 V0]) := Box.new rfl
          have HB4 : Hid (Box (w3.alloc (.cells #[.slice none 0 0, .int .i64 V0] 30)) w.heap.size 25 #[.slice ra n c, .slice ga m d, .bool single] ∧ Box (w3.alloc (.cells #[.slice none 0 0, .int .i64 V0] 30)) (w.heap.size + 1) 30 #[.slice sa m sc, .int .i64 V0]) := ⟨HP3.out.box.below hb, HX3.out.box.below hb⟩
          have HBW4 := Lib.hid (HBW3.out.trans (hb.mono HBW3.out.size))
          have hs3 : w.heap.size + 1 < w3.heap.size := lt_of_block HX3.out.box
          clear hb HP3 HX3 HBW3
          go_upto_region 5 with fail
          generalize (w3.alloc (.cells #[.slice none 0 0, .int .i64 V0] 30)) = w4 at *
          obtain ⟨yb, hyb⟩ : ∃ x, w3.heap.size = x := ⟨_, rfl⟩
          simp only [hyb] at HY hs3 ⊢
          clear hyb p1 y0 y1
          have hw4 : w.heap.size ≤ w4.heap.size := HBW4.out.size
          go_wp2_with fail
          go_loopw [7, 8] (fun v7 _ wr => ∃ (i : Nat) (ya : Option Addr) (yc : Nat), v7 = .int .i64 i ∧ i ≤ m ∧
              Hid (Box wr yb 30 #[.slice ya i yc, .int .i64 V0]) ∧ Hid (wr.ownsRow w4.heap.size 39 2 (.slice ya i yc) i (pcells (turnP R G S i))) ∧ Hid (Below w.heap.size w wr) ∧
              Hid (Box wr w.heap.size 25 #[.slice ra n c, .slice ga m d, .bool single] ∧ Box wr (w.heap.size + 1) 30 #[.slice sa m sc, .int .i64 V0]) ∧ Hid (w4.heap.size ≤ wr.heap.size))
            (fun v7 _ _ => m - (intOf v7).toNat)
          case atStart => exact ⟨0, none, 0, rfl, Nat.zero_le _, HY, World.ownsRow_nil _ _ _ _, HBW4, HB4, Nat.le_refl _⟩
          case round =>
            clear HY HB4 HBW4
            obtain ⟨i, ya, yc, rfl, hi, HY, HO, HBW, HBX, HZ⟩ := hrel
            have x0 := HBX.out.2.cell 0
            simp only [List.getElem?_toArray, List.getElem?_cons_zero, List.getElem?_cons_succ] at x0
            by_cases hlt : i < m
            · have hgg := (validS_parts HVB.out).2.2 i (by rw [HGL.out]; exact hlt)
              obtain ⟨sb, so, rfl, s1, s2⟩ := (HRW.out.2.2.1.below HBW.out).2 i hlt
              obtain ⟨t, ht⟩ : ∃ x, gs S i = x := ⟨_, rfl⟩
              obtain ⟨f, hf⟩ : ∃ x, gv S i = x := ⟨_, rfl⟩
              have HTF : Hid (gs S i = t ∧ gv S i = f) := ⟨ht, hf⟩
              rw [ht] at s1; rw [hf] at s2
              have hbox : Hid (Box (wr.alloc (.cells #[.int .i64 t, .int .i64 f] 39)) wr.heap.size 39 #[.int .i64 t, .int .i64 f]) := Box.new rfl
              have hbel : Hid (Below wr.heap.size wr (wr.alloc (.cells #[.int .i64 t, .int .i64 f] 39))) := al _ _
              clear ht hf
              go_upto_region 9 with fail
              generalize (wr.alloc (.cells #[.int .i64 t, .int .i64 f] 39)) = w5 at *
              clear x0 s1 s2
              have b0 := hbox.out.cell 0
              have b1 := hbox.out.cell 1
              have p0 := (HBX.out.1.below hbel.out).cell 0
              have p1 := (HBX.out.1.below hbel.out).cell 1
              have p2 := (HBX.out.1.below hbel.out).cell 2
              have x0 := (HBX.out.2.below hbel.out).cell 0
              have x1 := (HBX.out.2.below hbel.out).cell 1
              simp only [List.getElem?_toArray, List.getElem?_cons_zero, List.getElem?_cons_succ] at b0 b1 p0 p1 p2 x0 x1
              by_cases hin : 0 ≤ t ∧ t < n
              · obtain ⟨h0t, htn⟩ := hin
                have e2 : decide (0 ≤ t) = true := by simp; exact h0t
                have e3 : decide (t < (n : Int)) = true := by simp; exact htn
                by_cases hbad : f < 0 ∨ 4000 < f
                · obtain ⟨fb, e4⟩ : ∃ b, decide (f < 0) = b := ⟨_, rfl⟩
                  have hfb : fb = false → decide (4000 < f) = true := fun h => by rw [h] at e4; simp at e4 ⊢; omega
                  have HBAD : Hid (gv S i < 0 ∨ 4000 < gv S i) := by show _ ∨ _; rw [HTF.out.2]; exact hbad
                  have H0T : Hid (0 ≤ gs S i ∧ gs S i < R.length) := by show _ ∧ _; rw [HTF.out.1, HRL.out]; exact ⟨h0t, htn⟩
                  have HBW5 := Lib.hid (HBW.out.trans (hbel.out.mono HBW.out.size))
                  clear hbad
                  cases fb
                  · have e5 := hfb rfl
                    clear hfb
                    go_wp2_with fail
                    refine (legal_any ra ga (some ⟨sb, so, none⟩) n c m d m sc single V0 R G S w5 (by omega) (by omega) (by omega) (HRW.out.1.below HBW5.out) (HRW.out.2.1.below HBW5.out) (HRW.out.2.2.1.below HBW5.out)).mono ?_
                    rintro e w6 ⟨q, rfl, hb6, hq⟩
                    obtain rfl := turn_bad HVB.out hq (by rw [HGL.out]; exact hlt) H0T.out HBAD.out
                    have HBW6 := Lib.hid (HBW5.out.trans (hb6.mono HBW5.out.size))
                    clear hq hb6 b0 b1 p0 p1 p2 x0 x1
                    go_wp2_with fail
                    go_ret
                    exact ⟨rfl, HBW6.out⟩
                  · clear hfb
                    go_wp2_with fail
                    refine (legal_any ra ga (some ⟨sb, so, none⟩) n c m d m sc single V0 R G S w5 (by omega) (by omega) (by omega) (HRW.out.1.below HBW5.out) (HRW.out.2.1.below HBW5.out) (HRW.out.2.2.1.below HBW5.out)).mono ?_
                    rintro e w6 ⟨q, rfl, hb6, hq⟩
                    obtain rfl := turn_bad HVB.out hq (by rw [HGL.out]; exact hlt) H0T.out HBAD.out
                    have HBW6 := Lib.hid (HBW5.out.trans (hb6.mono HBW5.out.size))
                    clear hq hb6 b0 b1 p0 p1 p2 x0 x1
                    go_wp2_with fail
                    go_ret
                    exact ⟨rfl, HBW6.out⟩
                · have e4 : decide (f < 0) = false := by simp; omega
                  have e5 : decide (4000 < f) = false := by simp; omega
                  have hf0 : 0 ≤ f ∧ f ≤ 4000 := by omega
                  obtain ⟨tn, rfl⟩ : ∃ tn : Nat, t = tn := ⟨t.toNat, by omega⟩
                  have htn2 : tn < n := by omega
                  have HBW5 := Lib.hid (HBW.out.trans (hbel.out.mono HBW.out.size))
                  have hrr := (runsOk_sum R 4000 (by omega) (validS_parts HVB.out).1).2.2 tn (by rw [HRL.out]; exact htn2)
                  obtain ⟨rb, ro, rfl, r1⟩ := (HRW.out.1.below HBW5.out).2 tn htn2
                  obtain ⟨gb, go, rfl, d1, _⟩ := (HRW.out.2.1.below HBW5.out).2 i hlt
                  obtain ⟨x, hx⟩ : ∃ x, ix R tn = x := ⟨_, rfl⟩
                  obtain ⟨s, hs⟩ : ∃ x, gs G i = x := ⟨_, rfl⟩
                  have HTS : Hid (turnP R G S (i + 1) = turnP R G S i ++ [((tn : Int), x - s - f)]) := by
                    show _ = _
                    rw [turnP_succ]
                    congr 2
                    unfold turnAt
                    rw [HTF.out.1, HTF.out.2, HRL.out, if_pos ⟨by omega, by omega⟩, Int.toNat_natCast, hx, hs]
                  rw [hx] at r1 hrr; rw [hs] at d1 hgg
                  have bf := hbox.out.free 1
                  have hw1 : wrap64 (x - s) = x - s := wrap64_in _ (by omega)
                  have hw2 : wrap64 (x - s - f) = x - s - f := wrap64_in _ (by omega)
                  have HSET : Hid (Box (w5.setCell ⟨wr.heap.size, 1, none⟩ (.int .i64 (x - s - f))) wr.heap.size 39 #[.int .i64 (tn : Int), .int .i64 (x - s - f)] ∧ Below wr.heap.size wr (w5.setCell ⟨wr.heap.size, 1, none⟩ (.int .i64 (x - s - f)))) := ⟨hbox.out.set 1 _, hbel.out.setCell (Nat.le_refl _) _⟩
                  clear hx hs
                  go_upto_region 12 with fail
                  go_cut [7] (fun v7 wx => v7 = .int .i64 (i : Int) ∧ Hid (Box wx wr.heap.size 39 #[.int .i64 (tn : Int), .int .i64 (x - s - f)]) ∧ Hid (Below wr.heap.size wr wx))
                  case first =>
                    go_region
                    all_goals
                      go_wp2_with fail
                      go_meet
                    all_goals
                      case rel => exact ⟨rfl, HSET.out.1, HSET.out.2.trans (((Below.refl _ _).drew).mono HSET.out.2.size)⟩
                  case rest =>
                    obtain ⟨rfl, HBS, HBL⟩ := hcut
                    clear b0 b1 p0 p1 p2 x0 x1 r1 d1 bf hw1 hw2 HSET hbox hbel HBW5
                    obtain ⟨t, ht⟩ : ∃ t : Int, (tn : Int) = t := ⟨_, rfl⟩
                    rw [ht] at HBS HTS
                    clear ht
                    have HY4 := Lib.hid (HY.out.below HBL.out)
                    have HO4 := Lib.hid (own_heap HO.out (fun b arr h1 _ => HBL.out.block b (lt_of_block h1)))
                    have HBX4 : Hid (Box wc w.heap.size 25 #[.slice (some ⟨rb, ro, none⟩) n c, .slice (some ⟨gb, go, none⟩) m d, .bool single] ∧ Box wc (w.heap.size + 1) 30 #[.slice (some ⟨sb, so, none⟩) m sc, .int .i64 V0]) := ⟨HBX.out.1.below HBL.out, HBX.out.2.below HBL.out⟩
                    have HBW4 := Lib.hid (HBW.out.trans (HBL.out.mono HBW.out.size))
                    have HZ4 : Hid (w4.heap.size ≤ wc.heap.size) := Nat.le_trans HZ.out HBL.out.size
                    obtain ⟨v', w6, hcp, ho6, hg6⟩ := push_pair HO4.out HZ4.out (by omega) t (x - s - f)
                    obtain ⟨ya', yc', rfl⟩ := own_shape ho6
                    have HCP := Lib.hid hcp
                    have hrow : ∀ q, (Value.slice ya i yc).ownBlock = some q → w.heap.size ≤ q := fun q hq => Nat.le_trans hw4 (HO4.out.lt q hq).1
                    have HBW6 : Hid (Below w.heap.size w w6) := Below.grow HBW4.out HBW4.out.size hg6 hrow
                    have HY6 : Hid (Box w6 yb 30 #[.slice ya i yc, .int .i64 V0]) := HY4.out.growG HO4.out hg6 (by decide)
                    have HBX6 : Hid (Box w6 w.heap.size 25 #[.slice (some ⟨rb, ro, none⟩) n c, .slice (some ⟨gb, go, none⟩) m d, .bool single] ∧ Box w6 (w.heap.size + 1) 30 #[.slice (some ⟨sb, so, none⟩) m sc, .int .i64 V0]) := ⟨HBX4.out.1.growG HO4.out hg6 (by decide), HBX4.out.2.growG HO4.out hg6 (by decide)⟩
                    have HO6 : Hid (w6.ownsRow w4.heap.size 39 2 (.slice ya' (i + 1) yc') (i + 1) (pcells (turnP R G S (i + 1)))) := by rw [HTS.out]; exact ho6
                    have HZ6 : Hid (w4.heap.size ≤ w6.heap.size) := Nat.le_trans HZ4.out hg6.size
                    have y0 := HY4.out.cell 0
                    have z0 := HY6.out.cell 0
                    have zf := HY6.out.free 0
                    have b0 := HBS.out.cell 0
                    have b1 := HBS.out.cell 1
                    simp only [List.getElem?_toArray, List.getElem?_cons_zero, List.getElem?_cons_succ] at y0 z0 b0 b1
                    have HFIN : Hid (Box (w6.setCell ⟨yb, 0, none⟩ (.slice ya' (i + 1) yc')) yb 30 #[.slice ya' (i + 1) yc', .int .i64 V0] ∧ (w6.setCell ⟨yb, 0, none⟩ (.slice ya' (i + 1) yc')).ownsRow w4.heap.size 39 2 (.slice ya' (i + 1) yc') (i + 1) (pcells (turnP R G S (i + 1))) ∧
                        Below w.heap.size w (w6.setCell ⟨yb, 0, none⟩ (.slice ya' (i + 1) yc')) ∧ (Box (w6.setCell ⟨yb, 0, none⟩ (.slice ya' (i + 1) yc')) w.heap.size 25 #[.slice (some ⟨rb, ro, none⟩) n c, .slice (some ⟨gb, go, none⟩) m d, .bool single] ∧ Box (w6.setCell ⟨yb, 0, none⟩ (.slice ya' (i + 1) yc')) (w.heap.size + 1) 30 #[.slice (some ⟨sb, so, none⟩) m sc, .int .i64 V0]) ∧ w4.heap.size ≤ (w6.setCell ⟨yb, 0, none⟩ (.slice ya' (i + 1) yc')).heap.size) :=
                      ⟨HY6.out.set 0 _, own_setBox HO6.out HY6.out _ (by decide), HBW6.out.setCell (by show w.heap.size ≤ yb; omega) _, ⟨HBX6.out.1.of_heap (heap_set _ (by omega)), HBX6.out.2.of_heap (heap_set _ (by omega))⟩, by have := HZ6.out; simpa [World.setCell] using this⟩
                    clear hcp ho6 hg6 hrow HY6 HBX6 HO6 HBW6 HZ6 HY4 HO4 HBX4 HBW4 HZ4
                    go_wp2_with (at_builtin; refine wpList_run_append rfl _ _ 28 rfl 28 rfl HCP.out rfl rfl ?_)
                    go_roundw
                    case rel => exact ⟨i + 1, ya', yc', by go_num, by omega, HFIN.out.1, HFIN.out.2.1, HFIN.out.2.2.1, HFIN.out.2.2.2.1, HFIN.out.2.2.2.2⟩
                    case measure => simp [intOf]; omega
              · have HTS : Hid (turnP R G S (i + 1) = turnP R G S i ++ [(t, f)]) := by
                  show _ = _
                  rw [turnP_succ]
                  congr 2
                  unfold turnAt
                  rw [HTF.out.1, HTF.out.2, HRL.out, if_neg hin]
                obtain ⟨tb, e2⟩ : ∃ b, decide (0 ≤ t) = b := ⟨_, rfl⟩
                have e3 : tb = true → decide (t < (n : Int)) = false := fun h => by rw [h] at e2; simp at e2 ⊢; omega
                clear hin
                cases tb
                · clear e3 b0 b1
                  have HY4 := Lib.hid (HY.out.below hbel.out)
                  have HO4 := Lib.hid (own_heap HO.out (fun b arr h1 _ => hbel.out.block b (lt_of_block h1)))
                  have HBX4 : Hid (Box w5 w.heap.size 25 #[.slice ra n c, .slice ga m d, .bool single] ∧ Box w5 (w.heap.size + 1) 30 #[.slice (some ⟨sb, so, none⟩) m sc, .int .i64 V0]) := ⟨HBX.out.1.below hbel.out, HBX.out.2.below hbel.out⟩
                  have HBW4 := Lib.hid (HBW.out.trans (hbel.out.mono HBW.out.size))
                  have HZ4 : Hid (w4.heap.size ≤ w5.heap.size) := Nat.le_trans HZ.out hbel.out.size
                  obtain ⟨v', w6, hcp, ho6, hg6⟩ := push_pair HO4.out HZ4.out (by omega) t f
                  obtain ⟨ya', yc', rfl⟩ := own_shape ho6
                  have HCP := Lib.hid hcp
                  have hrow : ∀ q, (Value.slice ya i yc).ownBlock = some q → w.heap.size ≤ q := fun q hq => Nat.le_trans hw4 (HO4.out.lt q hq).1
                  have HBW6 : Hid (Below w.heap.size w w6) := Below.grow HBW4.out HBW4.out.size hg6 hrow
                  have HY6 : Hid (Box w6 yb 30 #[.slice ya i yc, .int .i64 V0]) := HY4.out.growG HO4.out hg6 (by decide)
                  have HBX6 : Hid (Box w6 w.heap.size 25 #[.slice ra n c, .slice ga m d, .bool single] ∧ Box w6 (w.heap.size + 1) 30 #[.slice (some ⟨sb, so, none⟩) m sc, .int .i64 V0]) := ⟨HBX4.out.1.growG HO4.out hg6 (by decide), HBX4.out.2.growG HO4.out hg6 (by decide)⟩
                  have HO6 : Hid (w6.ownsRow w4.heap.size 39 2 (.slice ya' (i + 1) yc') (i + 1) (pcells (turnP R G S (i + 1)))) := by rw [HTS.out]; exact ho6
                  have HZ6 : Hid (w4.heap.size ≤ w6.heap.size) := Nat.le_trans HZ4.out hg6.size
                  have y0 := HY4.out.cell 0
                  have z0 := HY6.out.cell 0
                  have zf := HY6.out.free 0
                  have b0 := hbox.out.cell 0
                  have b1 := hbox.out.cell 1
                  simp only [List.getElem?_toArray, List.getElem?_cons_zero, List.getElem?_cons_succ] at y0 z0 b0 b1
                  have HFIN : Hid (Box (w6.setCell ⟨yb, 0, none⟩ (.slice ya' (i + 1) yc')) yb 30 #[.slice ya' (i + 1) yc', .int .i64 V0] ∧ (w6.setCell ⟨yb, 0, none⟩ (.slice ya' (i + 1) yc')).ownsRow w4.heap.size 39 2 (.slice ya' (i + 1) yc') (i + 1) (pcells (turnP R G S (i + 1))) ∧
                      Below w.heap.size w (w6.setCell ⟨yb, 0, none⟩ (.slice ya' (i + 1) yc')) ∧ (Box (w6.setCell ⟨yb, 0, none⟩ (.slice ya' (i + 1) yc')) w.heap.size 25 #[.slice ra n c, .slice ga m d, .bool single] ∧ Box (w6.setCell ⟨yb, 0, none⟩ (.slice ya' (i + 1) yc')) (w.heap.size + 1) 30 #[.slice (some ⟨sb, so, none⟩) m sc, .int .i64 V0]) ∧ w4.heap.size ≤ (w6.setCell ⟨yb, 0, none⟩ (.slice ya' (i + 1) yc')).heap.size) :=
                    ⟨HY6.out.set 0 _, own_setBox HO6.out HY6.out _ (by decide), HBW6.out.setCell (by show w.heap.size ≤ yb; omega) _, ⟨HBX6.out.1.of_heap (heap_set _ (by omega)), HBX6.out.2.of_heap (heap_set _ (by omega))⟩, by have := HZ6.out; simpa [World.setCell] using this⟩
                  clear hcp ho6 hg6 hrow HY6 HBX6 HO6 HBW6 HZ6 HY4 HO4 HBX4 HBW4 HZ4
                  go_wp2_with (at_builtin; refine wpList_run_append rfl _ _ 28 rfl 28 rfl HCP.out rfl rfl ?_)
                  go_roundw
                  case rel => exact ⟨i + 1, ya', yc', by go_num, by omega, HFIN.out.1, HFIN.out.2.1, HFIN.out.2.2.1, HFIN.out.2.2.2.1, HFIN.out.2.2.2.2⟩
                  case measure => simp [intOf]; omega
                · have e4 := e3 rfl
                  clear e3 b0 b1
                  have HY4 := Lib.hid (HY.out.below hbel.out)
                  have HO4 := Lib.hid (own_heap HO.out (fun b arr h1 _ => hbel.out.block b (lt_of_block h1)))
                  have HBX4 : Hid (Box w5 w.heap.size 25 #[.slice ra n c, .slice ga m d, .bool single] ∧ Box w5 (w.heap.size + 1) 30 #[.slice (some ⟨sb, so, none⟩) m sc, .int .i64 V0]) := ⟨HBX.out.1.below hbel.out, HBX.out.2.below hbel.out⟩
                  have HBW4 := Lib.hid (HBW.out.trans (hbel.out.mono HBW.out.size))
                  have HZ4 : Hid (w4.heap.size ≤ w5.heap.size) := Nat.le_trans HZ.out hbel.out.size
                  obtain ⟨v', w6, hcp, ho6, hg6⟩ := push_pair HO4.out HZ4.out (by omega) t f
                  obtain ⟨ya', yc', rfl⟩ := own_shape ho6
                  have HCP := Lib.hid hcp
                  have hrow : ∀ q, (Value.slice ya i yc).ownBlock = some q → w.heap.size ≤ q := fun q hq => Nat.le_trans hw4 (HO4.out.lt q hq).1
                  have HBW6 : Hid (Below w.heap.size w w6) := Below.grow HBW4.out HBW4.out.size hg6 hrow
                  have HY6 : Hid (Box w6 yb 30 #[.slice ya i yc, .int .i64 V0]) := HY4.out.growG HO4.out hg6 (by decide)
                  have HBX6 : Hid (Box w6 w.heap.size 25 #[.slice ra n c, .slice ga m d, .bool single] ∧ Box w6 (w.heap.size + 1) 30 #[.slice (some ⟨sb, so, none⟩) m sc, .int .i64 V0]) := ⟨HBX4.out.1.growG HO4.out hg6 (by decide), HBX4.out.2.growG HO4.out hg6 (by decide)⟩
                  have HO6 : Hid (w6.ownsRow w4.heap.size 39 2 (.slice ya' (i + 1) yc') (i + 1) (pcells (turnP R G S (i + 1)))) := by rw [HTS.out]; exact ho6
                  have HZ6 : Hid (w4.heap.size ≤ w6.heap.size) := Nat.le_trans HZ4.out hg6.size
                  have y0 := HY4.out.cell 0
                  have z0 := HY6.out.cell 0
                  have zf := HY6.out.free 0
                  have b0 := hbox.out.cell 0
                  have b1 := hbox.out.cell 1
                  simp only [List.getElem?_toArray, List.getElem?_cons_zero, List.getElem?_cons_succ] at y0 z0 b0 b1
                  have HFIN : Hid (Box (w6.setCell ⟨yb, 0, none⟩ (.slice ya' (i + 1) yc')) yb 30 #[.slice ya' (i + 1) yc', .int .i64 V0] ∧ (w6.setCell ⟨yb, 0, none⟩ (.slice ya' (i + 1) yc')).ownsRow w4.heap.size 39 2 (.slice ya' (i + 1) yc') (i + 1) (pcells (turnP R G S (i + 1))) ∧
                      Below w.heap.size w (w6.setCell ⟨yb, 0, none⟩ (.slice ya' (i + 1) yc')) ∧ (Box (w6.setCell ⟨yb, 0, none⟩ (.slice ya' (i + 1) yc')) w.heap.size 25 #[.slice ra n c, .slice ga m d, .bool single] ∧ Box (w6.setCell ⟨yb, 0, none⟩ (.slice ya' (i + 1) yc')) (w.heap.size + 1) 30 #[.slice (some ⟨sb, so, none⟩) m sc, .int .i64 V0]) ∧ w4.heap.size ≤ (w6.setCell ⟨yb, 0, none⟩ (.slice ya' (i + 1) yc')).heap.size) :=
                    ⟨HY6.out.set 0 _, own_setBox HO6.out HY6.out _ (by decide), HBW6.out.setCell (by show w.heap.size ≤ yb; omega) _, ⟨HBX6.out.1.of_heap (heap_set _ (by omega)), HBX6.out.2.of_heap (heap_set _ (by omega))⟩, by have := HZ6.out; simpa [World.setCell] using this⟩
                  clear hcp ho6 hg6 hrow HY6 HBX6 HO6 HBW6 HZ6 HY4 HO4 HBX4 HBW4 HZ4
                  go_wp2_with (at_builtin; refine wpList_run_append rfl _ _ 28 rfl 28 rfl HCP.out rfl rfl ?_)
                  go_roundw
                  case rel => exact ⟨i + 1, ya', yc', by go_num, by omega, HFIN.out.1, HFIN.out.2.1, HFIN.out.2.2.1, HFIN.out.2.2.2.1, HFIN.out.2.2.2.2⟩
                  case measure => simp [intOf]; omega
            · obtain rfl : i = m := by omega
              clear x0
              have HPA : Hid (ProbAt wr w.heap.size n i ra ga c d single R G) := ⟨HBX.out.1, HRW.out.1.below HBW.out, HRW.out.2.1.below HBW.out, HRW.out.2.2.2⟩
              have HXA : Hid (PackAt wr (w.heap.size + 1) i sa sc S V0) := ⟨HBX.out.2, HRW.out.2.2.1.below HBW.out⟩
              have HYA : Hid (PackAt wr yb i ya yc (turnP R G S i) V0) := ⟨HY.out, pairs_of_row HO.out⟩
              have x0 := HXA.out.box.cell 0
              simp only [List.getElem?_toArray, List.getElem?_cons_zero, List.getElem?_cons_succ] at x0
              clear HY HO HBX HZ
              go_upto_region 14 with fail
              refine wp_region_held_drew (S := fun w' => Below wr.heap.size wr w') (by kernel_rfl) ((Below.refl _ _).drew) (fun hHeld => ?_)
              refine take_at (i := 0) (v := ?_) 98 rfl rfl (by kernel_rfl) (by kernel_rfl) (by kernel_rfl) (fun _ _ _ h => h) (Or.inl ⟨by rfl, ?_⟩) hHeld ?_
              rotate_left
              · intro w hSw; go_simp <;> with_reducible rfl
              try simp only [Act.put, List.setIfInBounds_toArray, List.set_cons_zero, List.set_cons_succ]
              refine take_at (i := 1) (v := ?_) 99 rfl rfl (by kernel_rfl) (by kernel_rfl) (by kernel_rfl) (fun _ _ _ h => h) (Or.inl ⟨by rfl, ?_⟩) hHeld ?_
              rotate_left
              · intro w hSw; go_simp <;> with_reducible rfl
              try simp only [Act.put, List.setIfInBounds_toArray, List.set_cons_zero, List.set_cons_succ]
              refine take_at (i := 2) (v := ?_) 100 rfl rfl (by kernel_rfl) (by kernel_rfl) (by kernel_rfl) (fun _ _ _ h => h) (Or.inl ⟨by rfl, ?_⟩) hHeld ?_
              rotate_left
              · intro w hSw
                have q0 := (HPA.out.below hSw).box.cell 0
                have q1 := (HPA.out.below hSw).box.cell 1
                have q2 := (HPA.out.below hSw).box.cell 2
                simp only [List.getElem?_toArray, List.getElem?_cons_zero, List.getElem?_cons_succ] at q0 q1 q2
                go_simp <;> with_reducible rfl
              try simp only [Act.put, List.setIfInBounds_toArray, List.set_cons_zero, List.set_cons_succ]
              refine take_at (i := 3) (v := ?_) 101 rfl rfl (by kernel_rfl) (by kernel_rfl) (by kernel_rfl) (fun _ _ _ h => h) (Or.inl ⟨by rfl, ?_⟩) hHeld ?_
              rotate_left
              · intro w hSw
                have q0 := (HXA.out.below hSw).box.cell 0
                have q1 := (HXA.out.below hSw).box.cell 1
                simp only [List.getElem?_toArray, List.getElem?_cons_zero, List.getElem?_cons_succ] at q0 q1
                go_simp <;> with_reducible rfl
              try simp only [Act.put, List.setIfInBounds_toArray, List.set_cons_zero, List.set_cons_succ]
              refine take_at (i := 5) (v := ?_) 103 rfl rfl (by kernel_rfl) (by kernel_rfl) (by kernel_rfl) (fun _ _ _ h => h) (Or.inl ⟨by rfl, ?_⟩) hHeld ?_
              rotate_left
              · intro w hSw
                have q0 := (HPA.out.below hSw).box.cell 0
                have q1 := (HPA.out.below hSw).box.cell 1
                have q2 := (HPA.out.below hSw).box.cell 2
                simp only [List.getElem?_toArray, List.getElem?_cons_zero, List.getElem?_cons_succ] at q0 q1 q2
                go_simp <;> with_reducible rfl
              try simp only [Act.put, List.setIfInBounds_toArray, List.set_cons_zero, List.set_cons_succ]
              refine take_at (i := 6) (v := ?_) 104 rfl rfl (by kernel_rfl) (by kernel_rfl) (by kernel_rfl) (fun _ _ _ h => h) (Or.inl ⟨by rfl, ?_⟩) hHeld ?_
              rotate_left
              · intro w hSw
                have q0 := (HYA.out.below hSw).box.cell 0
                have q1 := (HYA.out.below hSw).box.cell 1
                simp only [List.getElem?_toArray, List.getElem?_cons_zero, List.getElem?_cons_succ] at q0 q1
                go_simp <;> with_reducible rfl
              try simp only [Act.put, List.setIfInBounds_toArray, List.set_cons_zero, List.set_cons_succ]
              refine wpAnyH_ready (rs := [4]) (by kernel_rfl) (by simp) ?_
              refine AllReadyH.cons rfl (fun K' hK => ?_) AllReadyH.nil
              go_simp
              refine (legal_any ra ga sa n c i d i sc single V0 R G S _ (by omega) (by omega) (by omega) (HPA.out.below hHeld).runs (HPA.out.below hHeld).groups (HXA.out.below hHeld).spots).mono ?_
              rintro e u101 ⟨q1, rfl, hb, hq1⟩
              have HQ1 := Lib.hid hq1
              clear hq1
              go_simp
              refine hK.out _ _ (hHeld.trans (hb.mono hHeld.size)) (fun hHeld2 => ?_)
              clear hK K' hb hHeld
              have hHeld := hHeld2
              clear hHeld2
              refine wpAnyH_ready (rs := [7]) (by kernel_rfl) (by simp) ?_
              refine AllReadyH.cons rfl (fun K' hK => ?_) AllReadyH.nil
              go_simp
              refine (legal_any ra ga ya n c i d i yc single V0 R G (turnP R G S i) _ (by omega) (by omega) (by omega) (HPA.out.below hHeld).runs (HPA.out.below hHeld).groups (HYA.out.below hHeld).spots).mono ?_
              rintro e u102 ⟨q2, rfl, hb, hq2⟩
              obtain rfl := turn_eq HSL.out HQ1.out hq2
              clear hq2
              go_simp
              refine hK.out _ _ (hHeld.trans (hb.mono hHeld.size)) (fun hHeld2 => ?_)
              clear hK K' hb hHeld
              have hHeld := hHeld2
              clear hHeld2
              cases q1
              all_goals
                refine take_at (i := 8) (v := ?_) 106 rfl rfl (by kernel_rfl) (by kernel_rfl) (by kernel_rfl) (fun _ _ _ h => h) (Or.inl ⟨by rfl, ?_⟩) hHeld ?_
                rotate_left
                · intro w hSw; go_simp <;> with_reducible rfl
                try simp only [Act.put, List.setIfInBounds_toArray, List.set_cons_zero, List.set_cons_succ]
                refine take_at (i := 9) (v := ?_) 107 rfl rfl (by kernel_rfl) (by kernel_rfl) (by kernel_rfl) (fun _ _ _ h => h) (Or.inl ⟨by rfl, ?_⟩) hHeld ?_
                rotate_left
                · intro w hSw; go_simp <;> with_reducible rfl
                try simp only [Act.put, List.setIfInBounds_toArray, List.set_cons_zero, List.set_cons_succ]
                refine take_at (i := 10) (v := ?_) 4 rfl rfl (by kernel_rfl) (by kernel_rfl) (by kernel_rfl) (fun _ _ _ h => h) (Or.inl ⟨by rfl, ?_⟩) hHeld ?_
                rotate_left
                · intro w hSw; go_simp <;> with_reducible rfl
                try simp only [Act.put, List.setIfInBounds_toArray, List.set_cons_zero, List.set_cons_succ]
                refine wpAnyH_done (by kernel_rfl) ?_ _
                go_wp2_with fail
                go_ret
                exact ⟨rfl, HBW.out.trans (hHeld.mono HBW.out.size)⟩
        · have t1 : ((k : Int) != (m : Int)) = true := by simp; omega
          go_wp2_with fail
          go_ret
          exact ⟨rfl, HBW3.out⟩
  · rw [show decide (n ≤ 40 ∧ m ≤ 40) = false from decide_eq_false hfew]
    go_wp2_with fail
    go_ret
    exact ⟨rfl, HBW2.out⟩
end Go.Proofs.Ytaomlhhlefpdeaa
