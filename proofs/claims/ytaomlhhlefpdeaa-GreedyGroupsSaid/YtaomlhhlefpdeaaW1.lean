/- foyerlaw24.GreedyGroups: the walk. -/
import Derived.Test.YtaomlhhlefpdeaaW0
import Derived.Test.YtaomlhhlefpdeaaU2
import Derived.Test.YtaomlhhlefpdeaaS
namespace Go.Proofs.Ytaomlhhlefpdeaa
open Go.RowKit

theorem seatS_value (single : Bool) (R : List Int) (G : List (Int × Int)) (hv : ∀ k, k < G.length → 0 ≤ gs G k * gv G k ∧ gs G k * gv G k ≤ 12000000) : ∀ (O : List Int) (st : PackSt), (∀ x ∈ O, x.toNat < G.length) → 0 ≤ st.value →
    0 ≤ (O.foldl (seatStep single R G) st).value ∧ (O.foldl (seatStep single R G) st).value ≤ st.value + 12000000 * O.length := by
  intro O
  induction O with
  | nil => intro st _ h; simp; exact h
  | cons x O ih =>
    intro st h h0
    have hx := hv _ (h x (by simp))
    have hs : st.value ≤ (seatStep single R G st x).value ∧ (seatStep single R G st x).value ≤ st.value + 12000000 := by
      unfold seatStep; split <;> dsimp only <;> omega
    have := ih (seatStep single R G st x) (fun y hy => h y (by simp [hy])) (by omega)
    rw [List.foldl_cons, List.length_cons]
    omega

theorem solveS_value {single : Bool} {R : List Int} {G : List (Int × Int)} (hv : validS R G = true) : 0 ≤ (solveS single R G).value ∧ (solveS single R G).value ≤ 12000000 * G.length := by
  obtain ⟨_, _, h3⟩ := validS_parts hv
  have hb : ∀ k, k < G.length → 0 ≤ gs G k * gv G k ∧ gs G k * gv G k ≤ 12000000 := fun k hk => by
    have h := h3 k hk
    refine ⟨Int.mul_nonneg (by omega) (by omega), ?_⟩
    have h1 : gs G k * gv G k ≤ 12 * gv G k := Int.mul_le_mul_of_nonneg_right h.1.2 h.2.1
    omega
  have key : ∀ O : List Int, O.Perm (idx G.length) → 0 ≤ (seatS single R G O).value ∧ (seatS single R G O).value ≤ 12000000 * G.length := fun O hp => by
    have := seatS_value single R G hb O ⟨R, List.replicate G.length (0, 0), 0⟩ (fun x hx => by have := (mem_idx _ _).mp (hp.mem_iff.mp hx); omega) (Int.le_refl _)
    rw [hp.length_eq, idx_length] at this
    unfold seatS; dsimp only at this; omega
  unfold solveS better
  split
  · exact key _ (rankedL_ok G).1
  · exact key _ (List.Perm.refl _)

/-- greedy.Solve, for whatever problem. -/
theorem solve_both (ra ga : Option Addr) (n c m d : Nat) (single : Bool) (R : List Int) (G : List (Int × Int)) (w : World)
    (hn : n ≤ 4000) (hm : m ≤ 4000) (hR : Ints w ra n R) (hG : Pairs w ga m G) (hc : ra = none → c = 0) :
    Calls Try.prog 17 #[.agg #[.slice ra n c, .slice ga m d, .bool single]] w fun e w' => ∃ sa k c' V bd er, e = .returned (.tuple #[.agg #[.slice sa k c', .int .i64 V], .int .i64 bd, .int .i64 er]) ∧ Below w.heap.size w w' ∧
      ((validS R G = false ∧ er = 1) ∨ (validS R G = true ∧ er = 0 ∧ k = m ∧ V = (solveS single R G).value ∧ Pairs w' sa m (solveS single R G).spots)) := by
  cases hv : validS R G
  · refine (solve_bad ra ga n c m d single R G w hn hm hR hG hv).mono ?_
    rintro e w' ⟨rfl, hb⟩
    exact ⟨_, _, _, _, _, _, rfl, hb, Or.inl ⟨rfl, rfl⟩⟩
  · refine (solve_good ra ga n c m d single R G w hn hm hR hG hc hv).mono ?_
    rintro e w' ⟨sa, c', rfl, hb, hS⟩
    exact ⟨_, _, _, _, _, _, rfl, hb, Or.inr ⟨rfl, rfl, rfl, rfl, hS⟩⟩

theorem Pairs.take {w : World} {ra : Option Addr} {m : Nat} {G : List (Int × Int)} (h : Pairs w ra m G) (n : Nat) (hn : n ≤ m) : Pairs w ra n (G.take n) := by
  refine ⟨by rw [List.length_take, h.1]; omega, fun k hk => ?_⟩
  rw [gs_take _ _ _ hk, gv_take _ _ _ hk]
  exact h.2 k (by omega)

theorem pairInfo : ∃ i, Try.prog.info? 37 = some i ∧ i.zero = some (.agg #[.int .i64 0, .int .i64 0]) ∧ i.size = 2 ∧ i.bytes = 16 := by
  have hinfo : (Try.prog.info? 37).map (fun i => (i.zero, i.size, i.bytes)) = some (some (.agg #[.int .i64 0, .int .i64 0]), 2, 16) := by kernel_rfl
  obtain ⟨i, hi, hzz⟩ := Option.map_eq_some_iff.1 hinfo
  simp only [Prod.mk.injEq] at hzz
  exact ⟨i, hi, hzz.1, hzz.2.1, hzz.2.2⟩

set_option maxRecDepth 10000 in
set_option maxHeartbeats 3200000 in
theorem groups_any (ra ga : Option Addr) (n c m d : Nat) (single : Bool) (val : Int) (R : List Int) (G : List (Int × Int)) (w : World)
    (hn : n ≤ 9223372036854775807) (hm : m ≤ 9223372036854775807) (hR : Ints w ra n R) (hG : Pairs w ga m G) (hc : ra = none → c = 0) (hval : 0 ≤ val ∧ val ≤ 65535) :
    Calls Try.prog 4 #[.agg #[.slice ra n c, .slice ga m d, .bool single], .int .u16 val] w fun e w' => e = .returned (.bool true) ∧ Below w.heap.size w w' := by
  have HR := Lib.hid hR; have HG := Lib.hid hG; have HC := Lib.hid hc
  have hb0 : Below w.heap.size w (w.alloc (.cells #[.slice ra n c, .slice ga m d, .bool single] 25)) := (Below.refl _ _).alloc (Nat.le_refl _) _
  have HBX0 : Hid (Box (w.alloc (.cells #[.slice ra n c, .slice ga m d, .bool single] 25)) w.heap.size 25 #[.slice ra n c, .slice ga m d, .bool single]) := Box.new rfl
  clear hR hG hc
  go_enter Try.func4, Try.ntmps4
  go_wp2_with fail
  refine (head_any _).mono ?_
  rintro e w1 ⟨rfl, hb1⟩
  have hbx := HBX0.out.below hb1
  have hbw : Below w.heap.size w w1 := hb0.trans (hb1.mono hb0.size)
  clear hb0 hb1 HBX0
  have x0 := hbx.cell 0
  have x1 := hbx.cell 1
  have x2 := hbx.cell 2
  simp only [List.getElem?_toArray, List.getElem?_cons_zero, List.getElem?_cons_succ] at x0 x1 x2
  by_cases hm0 : m = 0
  · subst hm0
    go_wp2_with fail
    refine (small_any ra ga n c 0 d single w1 hn hm).mono ?_
    rintro e w2 ⟨rfl, hb2⟩
    have hbw2 : Below w.heap.size w w2 := hbw.trans (hb2.mono hbw.size)
    clear x0 x1 x2 hb2 hbx hbw
    cases hd : decide (n ≤ 60 ∧ 0 ≤ 60)
    · clear hd
      go_wp2
      go_ret
      exact ⟨rfl, hbw2⟩
    · clear hd
      go_wp2
      go_ret
      exact ⟨rfl, hbw2⟩
  · obtain ⟨N, rfl⟩ : ∃ N, m = N + 1 := ⟨m - 1, by omega⟩
    clear hm0
    have e1 : ((N + 1 : Nat) : Int) - 1 = N := by omega
    have e2 : decide ((N : Int) < 0) = false := by simp
    go_wp2_with fail
    refine (small_any ra ga n c (N + 1) d single w1 hn hm).mono ?_
    rintro e w2 ⟨rfl, hb2⟩
    have hbx2 := hbx.below hb2
    have hbw2 : Below w.heap.size w w2 := hbw.trans (hb2.mono hbw.size)
    clear x0 x1 x2 hb2 hbx hbw
    by_cases hsm : n ≤ 60 ∧ N + 1 ≤ 60
    · rw [show decide (n ≤ 60 ∧ N + 1 ≤ 60) = true from decide_eq_true hsm]
      obtain ⟨hn60, hm60⟩ := hsm
      clear hn hm
      have x0 := hbx2.cell 0
      have x1 := hbx2.cell 1
      have x2 := hbx2.cell 2
      simp only [List.getElem?_toArray, List.getElem?_cons_zero, List.getElem?_cons_succ] at x0 x1 x2
      have HBQ : Hid (Box (w2.alloc (.cells #[.slice ra n c, .slice ga (N + 1) d, .bool single] 25)) w2.heap.size 25 #[.slice ra n c, .slice ga (N + 1) d, .bool single]) := Box.new rfl
      have HBX3 := Lib.hid (hbx2.alloc (.cells #[.slice ra n c, .slice ga (N + 1) d, .bool single] 25))
      have hb4 : Below w.heap.size w (w2.alloc (.cells #[.slice ra n c, .slice ga (N + 1) d, .bool single] 25)) := hbw2.alloc hbw2.size _
      have hs34 : w2.heap.size < (w2.alloc (.cells #[.slice ra n c, .slice ga (N + 1) d, .bool single] 25)).heap.size := by simp
      have hwb : w.heap.size < w2.heap.size := lt_of_block hbx2
      obtain ⟨i0, hi, hz0, hz1, hz2⟩ := pairInfo
      obtain ⟨bg, og, hga, _⟩ := HG.out.2 0 (by omega)
      subst hga
      clear hbw2 hbx2
      go_upto_region 6 with fail
      generalize (w2.alloc (.cells #[.slice ra n c, .slice (some ⟨bg, og, none⟩) (N + 1) d, .bool single] 25)) = w3 at *
      generalize w2.heap.size = bq at *
      clear x0 x1 x2
      have x0 := HBX3.out.cell 0
      have x1 := HBX3.out.cell 1
      have x2 := HBX3.out.cell 2
      have q1 := HBQ.out.cell 1
      have fq := HBQ.out.free 1
      have hw3 : w.heap.size < w3.heap.size := by omega
      simp only [List.getElem?_toArray, List.getElem?_cons_zero, List.getElem?_cons_succ] at x0 x1 x2 q1
      have hlen : Hid ((pcells G).length = (N + 1) * 2) := by show _ = _; rw [pcells_length, HG.out.1]
      have hnews := Lib.hid (pcells_cells (HG.out.below (hb4.alloc hb4.size (.cells #[] 37))))
      have hone := Lib.hid (pcells_one G)
      go_wp2_with (at_builtin; refine wpList_append_own _ rfl _ _ 23 rfl w3.heap.size 37 i0 (.agg #[.int .i64 0, .int .i64 0]) 2 16 Try.underlying23 hi hz0 hz1 hz2 rfl (by decide) _ 0 [] rfl (World.ownsRow_made w3 #[] 0 (Nat.le_refl _) (by unfold maxLen; omega) rfl) ⟨bg, og, none⟩ (N + 1) d (pcells G) rfl hlen.out hnews.out hone.out (by unfold maxLen; omega) (by omega) (by simp) ?_)
      intro v' w5 hown hgrow _
      obtain ⟨g, c', rfl, hc', hgb, hGl, hrow⟩ := PairRow.of_row (n := N + 1) (G := G) (Nat.succ_pos N) (by simpa using hown)
      have hbel : Below w3.heap.size w3 w5 := ((Below.refl _ _).alloc (Nat.le_refl _) _).grown hgrow (by simp) (fun k hk => by simp [Value.ownBlock] at hk; omega)
      clear hown hgrow x0 x1 x2 q1 fq hlen hnews hone
      have q1 := (HBQ.out.below hbel).cell 1
      have fq := (HBQ.out.below hbel).free 1
      simp only [List.getElem?_toArray, List.getElem?_cons_zero, List.getElem?_cons_succ] at q1
      have HBQ5 : Hid (Box (w5.setCell ⟨bq, 1, none⟩ (.slice (some ⟨g, 0, none⟩) (N + 1) c')) bq 25 #[.slice ra n c, .slice (some ⟨g, 0, none⟩) (N + 1) c', .bool single]) := (HBQ.out.below hbel).set 1 (.slice (some ⟨g, 0, none⟩) (N + 1) c')
      have HBX5 := Lib.hid (((HBX3.out.below hbel).of_heap (heap_set (k := 1) (v := .slice (some ⟨g, 0, none⟩) (N + 1) c') w.heap.size (show w.heap.size ≠ bq by omega))))
      have HROW5 := Lib.hid (hrow.of_heap (heap_set (k := 1) (v := .slice (some ⟨g, 0, none⟩) (N + 1) c') g (show g ≠ bq by omega)))
      have hb6 : Below w.heap.size w (w5.setCell ⟨bq, 1, none⟩ (.slice (some ⟨g, 0, none⟩) (N + 1) c')) := (hb4.trans (hbel.mono hb4.size)).setCell (by simp; omega) _
      have hgq : bq < g := by omega
      have hwq : w.heap.size < bq := by omega
      have hg6 : g < (w5.setCell ⟨bq, 1, none⟩ (.slice (some ⟨g, 0, none⟩) (N + 1) c')).heap.size := HROW5.out.lt
      have hGl := Lib.hid hGl
      clear hrow hbel HBX3 HBQ hb4
      go_upto_region 7 with fail
      generalize (w5.setCell ⟨bq, 1, none⟩ (.slice (some ⟨g, 0, none⟩) (N + 1) c')) = w6 at *
      clear hwb hs34 hw3 hgb HBX5
      go_wp2_with fail
      go_loopw [8] (fun v8 wr => ∃ (i : Nat) (S : List (Int × Int)), v8 = .int .i64 i ∧ i ≤ N + 1 ∧ Hid (S.length = N + 1) ∧ Hid (∀ k, k < N + 1 → gs S k = gs G k) ∧ Hid (∀ k, k < i → gv S k = val) ∧ Hid (PairRow wr g 37 S) ∧
          Hid (Box wr bq 25 #[.slice ra n c, .slice (some ⟨g, 0, none⟩) (N + 1) c', .bool single]) ∧ Hid (Below w.heap.size w wr))
        (fun v8 _ => N + 1 - (intOf v8).toNat)
      case atStart => exact ⟨0, G, rfl, Nat.zero_le _, hGl, fun k _ => rfl, fun k hk => absurd hk (by omega), HROW5, HBQ5, hb6⟩
      case round =>
        clear HROW5 HBQ5 hb6 hg6
        obtain ⟨i, S, rfl, hi, HLS, HSS, HSV, HROW, HBQ, HB⟩ := hrel
        have q0 := HBQ.out.cell 0
        have q1 := HBQ.out.cell 1
        have q2 := HBQ.out.cell 2
        simp only [List.getElem?_toArray, List.getElem?_cons_zero, List.getElem?_cons_succ] at q0 q1 q2
        by_cases hlt : i < N + 1
        · have c2 := HROW.out.cell2 i (by rw [HLS.out]; exact hlt)
          have f2 := HROW.out.free (i * 2 + 1)
          have hle : decide ((i : Int) ≤ (N : Int)) = true := by simp; omega
          have HR2 := Lib.hid (HROW.out.set2 i (by rw [HLS.out]; exact hlt) val)
          have HB2 := Lib.hid (HBQ.out.of_heap (heap_set (k := i * 2 + 1) (v := .int .i64 val) bq (show bq ≠ g by omega)))
          have HBW := Lib.hid (HB.out.setCell (p := ⟨g, i * 2 + 1, none⟩) (show w.heap.size ≤ g by omega) (.int .i64 val))
          clear HROW HBQ q0 q2
          go_wp2_with fail
          go_roundw
          case rel => exact ⟨i + 1, _, by go_num, by omega, by show _ = _; rw [List.length_set]; exact HLS.out, fun k hk => by
              rw [gs_set _ _ _ _ (by rw [HLS.out]; exact hlt)]
              split
              · subst_vars; exact HSS.out _ hk
              · exact HSS.out k hk, fun k hk => by
              rw [gv_set _ _ _ _ (by rw [HLS.out]; exact hlt)]
              split
              · rfl
              · exact HSV.out k (by omega), HR2, HB2, HBW⟩
          case measure => simp [intOf]; omega
        · obtain rfl : i = N + 1 := by omega
          have hle : decide (((N + 1 : Nat) : Int) ≤ (N : Int)) = false := by simp; omega
          have hP : Pairs wr (some ⟨g, 0, none⟩) (N + 1) S := by have := HROW.out.pairs; rw [HLS.out] at this; exact this
          have HP := Lib.hid hP
          have hgw : bq < wr.heap.size := lt_of_block HBQ.out
          have hww : w.heap.size ≤ wr.heap.size := HB.out.size
          clear hP HSS HROW hGl
          go_wp2_with fail
          refine (solve_both ra (some ⟨g, 0, none⟩) n c (N + 1) c' single R S wr (by omega) (by omega) (HR.out.below HB.out) HP.out HC.out).mono ?_
          rintro e w8 ⟨sa, k1, sc, V1, bd1, er1, rfl, hb8, hres1⟩
          have HRES1 := Lib.hid hres1
          have h8 : wr.heap.size ≤ w8.heap.size := hb8.size
          have HA : Hid (Box (w8.alloc (.cells #[.slice sa k1 sc, .int .i64 V1] 30)) w8.heap.size 30 #[.slice sa k1 sc, .int .i64 V1] ∧ w8.heap.size < (w8.alloc (.cells #[.slice sa k1 sc, .int .i64 V1] 30)).heap.size) := ⟨Box.new rfl, by simp⟩
          have HBQ9 := Lib.hid ((HBQ.out.below hb8).alloc (.cells #[.slice sa k1 sc, .int .i64 V1] 30))
          have HBW9 := Lib.hid ((HB.out.trans (hb8.mono hww)).alloc (Nat.le_trans hww h8) (.cells #[.slice sa k1 sc, .int .i64 V1] 30))
          have HB89 := Lib.hid ((Below.refl w8.heap.size w8).alloc (Nat.le_refl _) (.cells #[.slice sa k1 sc, .int .i64 V1] 30))
          have HP9 := Lib.hid ((HP.out.below hb8).below HB89.out)
          clear hres1 q0 q1 q2 HBQ HB hb8 hle HP
          go_upto_region 12 with fail
          generalize hw9 : (w8.alloc (.cells #[.slice sa k1 sc, .int .i64 V1] 30)) = w9 at *
          obtain ⟨b9, hb9⟩ : ∃ b9, w8.heap.size = b9 := ⟨_, rfl⟩
          rw [hb9] at HA HB89 h8 ⊢
          have HB9E := Lib.hid hb9
          clear hw9 hb9
          have q0 := HBQ9.out.cell 0
          have q1 := HBQ9.out.cell 1
          have q2 := HBQ9.out.cell 2
          simp only [List.getElem?_toArray, List.getElem?_cons_zero, List.getElem?_cons_succ] at q0 q1 q2
          have h9 := HA.out.2
          have HL0 : Hid (Box (w9.alloc (.cells #[.slice ra n c, .slice (some ⟨g, 0, none⟩) (N + 1) c', .bool single] 25)) w9.heap.size 25 #[.slice ra n c, .slice (some ⟨g, 0, none⟩) (N + 1) c', .bool single]) := Box.new rfl
          have HBQ10 := Lib.hid (HBQ9.out.alloc (.cells #[.slice ra n c, .slice (some ⟨g, 0, none⟩) (N + 1) c', .bool single] 25))
          have HA10 := Lib.hid (HA.out.1.alloc (.cells #[.slice ra n c, .slice (some ⟨g, 0, none⟩) (N + 1) c', .bool single] 25))
          have HBW10 := Lib.hid (HBW9.out.alloc HBW9.out.size (.cells #[.slice ra n c, .slice (some ⟨g, 0, none⟩) (N + 1) c', .bool single] 25))
          have HB810 := Lib.hid (HB89.out.alloc (Nat.le_of_lt h9) (.cells #[.slice ra n c, .slice (some ⟨g, 0, none⟩) (N + 1) c', .bool single] 25))
          have HB910 := Lib.hid ((Below.refl w9.heap.size w9).alloc (Nat.le_refl _) (.cells #[.slice ra n c, .slice (some ⟨g, 0, none⟩) (N + 1) c', .bool single] 25))
          clear HBQ9 HBW9 HB89 HA
          go_upto_region 13 with fail
          generalize hw10 : (w9.alloc (.cells #[.slice ra n c, .slice (some ⟨g, 0, none⟩) (N + 1) c', .bool single] 25)) = w10 at *
          have h10 : w9.heap.size < w10.heap.size := lt_of_block HL0.out
          obtain ⟨b12, hb12⟩ : ∃ b, w9.heap.size = b := ⟨_, rfl⟩
          rw [hb12] at HL0 h9 h10 ⊢
          have HB12E := Lib.hid hb12
          clear hw10 hb12 q0 q1 q2
          have q1 := HBQ10.out.cell 1
          have l1 := HL0.out.cell 1
          have fl := HL0.out.free 1
          simp only [List.getElem?_toArray, List.getElem?_cons_zero, List.getElem?_cons_succ] at q1 l1
          have HL11 : Hid (Box (w10.setCell ⟨b12, 1, none⟩ (.slice (some ⟨g, 0, none⟩) N c')) b12 25 #[.slice ra n c, .slice (some ⟨g, 0, none⟩) N c', .bool single]) := HL0.out.set 1 (.slice (some ⟨g, 0, none⟩) N c')
          have HK := fun k (hk : k ≠ b12) => heap_set (w := w10) (k := 1) (v := .slice (some ⟨g, 0, none⟩) N c') k hk
          have HBQ11 := Lib.hid (HBQ10.out.of_heap (HK bq (by omega)))
          have HA11 := Lib.hid (HA10.out.of_heap (HK b9 (by omega)))
          have HBW11 := Lib.hid (HBW10.out.setCell (p := ⟨b12, 1, none⟩) (show w.heap.size ≤ b12 by omega) (.slice (some ⟨g, 0, none⟩) N c'))
          have HB811 := Lib.hid (HB810.out.setCell (p := ⟨b12, 1, none⟩) (show b9 ≤ b12 by omega) (.slice (some ⟨g, 0, none⟩) N c'))
          clear HK
          have HP11 : Hid (Pairs (w10.setCell ⟨b12, 1, none⟩ (.slice (some ⟨g, 0, none⟩) N c')) (some ⟨g, 0, none⟩) (N + 1) S) :=
            HP9.out.below (HB910.out.setCell (p := ⟨b12, 1, none⟩) (show w9.heap.size ≤ b12 by rw [HB12E.out]; exact Nat.le_refl _) (.slice (some ⟨g, 0, none⟩) N c'))
          have h11 : b12 < (w10.setCell ⟨b12, 1, none⟩ (.slice (some ⟨g, 0, none⟩) N c')).heap.size := lt_of_block HL11.out
          clear HL0 HBQ10 HA10 HBW10 HB810 HP9 HB910 HB12E
          go_upto_region 14 with fail
          generalize (w10.setCell ⟨b12, 1, none⟩ (.slice (some ⟨g, 0, none⟩) N c')) = w11 at *
          clear q1 l1 fl h10
          have l0 := HL11.out.cell 0
          have l1 := HL11.out.cell 1
          have l2 := HL11.out.cell 2
          simp only [List.getElem?_toArray, List.getElem?_cons_zero, List.getElem?_cons_succ] at l0 l1 l2
          go_wp2_with fail
          refine (solve_both ra (some ⟨g, 0, none⟩) n c N c' single R (S.take N) w11 (by omega) (by omega) (HR.out.below HBW11.out) (HP11.out.take N (by omega)) HC.out).mono ?_
          rintro e w12 ⟨sb, k2, sd, V2, bd2, er2, rfl, hb12, hres2⟩
          have HA12 := Lib.hid (HA11.out.below hb12)
          have HBQ12 := Lib.hid (HBQ11.out.below hb12)
          have HP12 := Lib.hid (HP11.out.below hb12)
          have HBW12 := Lib.hid (HBW11.out.trans (hb12.mono (by omega)))
          have HB812 := Lib.hid (HB811.out.trans (hb12.mono (show b9 ≤ w11.heap.size by omega)))
          have h12 : w11.heap.size ≤ w12.heap.size := hb12.size
          have HD : Hid (Box (w12.alloc (.cells #[.slice sb k2 sd, .int .i64 V2] 30)) w12.heap.size 30 #[.slice sb k2 sd, .int .i64 V2]) := Box.new rfl
          have HA13 := Lib.hid (HA12.out.alloc (.cells #[.slice sb k2 sd, .int .i64 V2] 30))
          have HBQ13 := Lib.hid (HBQ12.out.alloc (.cells #[.slice sb k2 sd, .int .i64 V2] 30))
          have HBW13 := Lib.hid (HBW12.out.alloc (show w.heap.size ≤ w12.heap.size by omega) (.cells #[.slice sb k2 sd, .int .i64 V2] 30))
          have HB813 := Lib.hid (HB812.out.alloc (show b9 ≤ w12.heap.size by omega) (.cells #[.slice sb k2 sd, .int .i64 V2] 30))
          have HB1213 := Lib.hid ((Below.refl w12.heap.size w12).alloc (Nat.le_refl _) (.cells #[.slice sb k2 sd, .int .i64 V2] 30))
          have HP13 := Lib.hid (HP12.out.below HB1213.out)
          have HRES2 := Lib.hid (hres2.imp id (fun h => (⟨h.1, h.2.1, h.2.2.1, h.2.2.2.1, h.2.2.2.2.below HB1213.out⟩ : _ ∧ _ ∧ _ ∧ _ ∧ Pairs (w12.alloc (.cells #[.slice sb k2 sd, .int .i64 V2] 30)) sb N (solveS single R (S.take N)).spots)))
          clear HL11 HBQ11 HA11 HBW11 HB811 HP11 l0 l1 l2 hb12 hres2 HA12 HBQ12 HBW12 HB812 HP12
          go_upto_region 15 with fail
          generalize (w12.alloc (.cells #[.slice sb k2 sd, .int .i64 V2] 30)) = w13 at *
          generalize hb13 : w12.heap.size = b13 at *
          clear hb13 HB1213
          rcases HRES1.out with ⟨hv1, he1⟩ | ⟨hv1, he1, hk1, hV1, hS1⟩
          · subst he1
            have FIN := Lib.hid HBW13.out
            clear HRES1 HRES2 HA13 HBQ13 HBW13 HB813 HP13 hv1
            go_wp2
            go_ret
            exact ⟨rfl, FIN.out⟩
          · rcases HRES2.out with ⟨hv2, _⟩ | ⟨_, he2, hk2, hV2, hS2⟩
            · rw [validS_take N hv1] at hv2; exact absurd hv2 (by simp)
            · subst he1 he2
              have HS1 : Hid (Pairs w13 sa (N + 1) (solveS single R S).spots) := hS1.below (by rw [← HB9E.out] at HB813; exact HB813.out)
              have HS2 := Lib.hid hS2
              have HLAW := Lib.hid (solveS_groups single R S val N HLS.out (fun k hk => HSV.out k (by rw [← HLS.out]; exact hk)))
              have HVS := Lib.hid (validS_parts hv1).2.2
              have hvv := solveS_value (single := single) (validS_take N hv1)
              rw [← hV2, List.length_take, HLS.out] at hvv
              have HLW := Lib.hid HLAW.out.1
              have hval2 := HLAW.out.2
              rw [← hV1, ← hV2] at hval2
              clear hV1 hV2 HRES1 HRES2 hS1 hS2 hv1 HLAW HB813 HB9E
              generalize (solveS single R S).spots = S1 at *
              generalize (solveS single R (S.take N)).spots = S2 at *
              subst k1 k2
              have a0 := HA13.out.cell 0
              have a1 := HA13.out.cell 1
              have d0 := HD.out.cell 0
              have d1 := HD.out.cell 1
              simp only [List.getElem?_toArray, List.getElem?_cons_zero, List.getElem?_cons_succ] at a0 a1 d0 d1
              have HVAL := Lib.hid hval2
              clear hval2
              have t1 : (((N + 1 : Nat) : Int) != (N : Int) + 1) = false := by simp
              have t2 : ((N : Int) != (N : Int)) = false := by simp
              go_wp2_with fail
              clear a0 a1 d0 d1
              go_loopw [16] (fun v16 wr => ∃ i : Nat, v16 = .int .i64 i ∧ i ≤ N ∧ Below w13.heap.size w13 wr)
                (fun v16 _ => N - (intOf v16).toNat)
              case atStart => exact ⟨0, rfl, Nat.zero_le _, Below.refl _ _⟩
              case round =>
                obtain ⟨i, rfl, hi, hb⟩ := hrel
                have a0 := (HA13.out.below hb).cell 0
                have a1 := (HA13.out.below hb).cell 1
                have d0 := (HD.out.below hb).cell 0
                have d1 := (HD.out.below hb).cell 1
                simp only [List.getElem?_toArray, List.getElem?_cons_zero, List.getElem?_cons_succ] at a0 a1 d0 d1
                by_cases hlt : i < N
                · obtain ⟨b, o, rfl, c1, c2⟩ := (HS1.out.below hb).2 i (by omega)
                  obtain ⟨b', o', rfl, u1, u2⟩ := (HS2.out.below hb).2 i hlt
                  have hl := HLW.out i hlt
                  rw [hl.1] at c1; rw [hl.2] at c2
                  clear hl a1 d1
                  go_wp2_with fail
                  go_quiet (fail)
                  go_wp2
                  go_roundw
                  case rel => exact ⟨i + 1, by go_num, by omega, below_drewN hb _⟩
                  case measure => simp [intOf]; omega
                · obtain rfl : i = N := by omega
                  obtain ⟨b, o, rfl, c1, _⟩ := (HS1.out.below hb).2 i (by omega)
                  have q1 := (HBQ13.out.below hb).cell 1
                  simp only [List.getElem?_toArray, List.getElem?_cons_zero, List.getElem?_cons_succ] at q1
                  obtain ⟨gb, go, e, r1, _⟩ := (HP13.out.below hb).2 i (by omega)
                  obtain ⟨rfl, rfl⟩ : g = gb ∧ 0 = go := by simpa using e
                  rw [Nat.zero_add] at r1
                  have hs := HVS.out i (by rw [HLS.out]; omega)
                  have FIN := Lib.hid (HBW13.out.trans (hb.mono (show w.heap.size ≤ w13.heap.size by have := HBW13.out.size; omega)))
                  obtain ⟨t, ht⟩ : ∃ x, gs S1 i = x := ⟨_, rfl⟩
                  obtain ⟨s, hs2⟩ : ∃ x, gs S i = x := ⟨_, rfl⟩
                  have HV2 := HVAL.out
                  rw [ht, hs2] at HV2
                  rw [ht] at c1; rw [hs2] at r1 hs
                  have hsz := hs.1
                  clear hs ht hs2 e
                  by_cases ht0 : 0 ≤ t
                  · rw [if_pos ht0] at HV2
                    have hp0 : 0 ≤ s * val := Int.mul_nonneg (by omega) (by omega)
                    have hp1 : s * val ≤ 12 * val := Int.mul_le_mul_of_nonneg_right hsz.2 hval.1
                    subst HV2
                    go_wp2_with fail
                    go_ret
                    exact ⟨rfl, FIN.out⟩
                  · rw [if_neg ht0] at HV2
                    subst HV2
                    go_wp2_with fail
                    go_ret
                    exact ⟨rfl, FIN.out⟩
    · rw [show decide (n ≤ 60 ∧ N + 1 ≤ 60) = false from decide_eq_false hsm]
      clear hsm hbx2
      go_wp2
      go_ret
      exact ⟨rfl, hbw2⟩
end Go.Proofs.Ytaomlhhlefpdeaa
