/- foyerlaw22.FitBound: the walk (printed by wip/fbgen.py). -/
import Derived.Test.YtaomlhhlefpdeaaQFitBound50
import Derived.Test.YtaomlhhlefpdeaaQFitBound51

namespace Go.Proofs.Ytaomlhhlefpdeaa
open Go.RowKit

theorem legal_value0 {single : Bool} {R : List Int} {G S : List (Int × Int)} {V : Int} (h : LegalP single R G S V) : 0 ≤ V := by
  obtain ⟨hv, hl, q, hq, _, rfl⟩ := h
  exact (placed_value (validS_parts hv).2.2 S.length q (by omega) hq).1

/-- A proof of one step 'bound' is accepted exactly if the value is the bound. -/
theorem check_one {single : Bool} {R : List Int} {G S : List (Int × Int)} {V : Int} {q : Bool} (hL : LegalP single R G S V) (h : q = true ↔ LegalP single R G S V ∧ 0 < 1 ∧ 1 ≤ 100000 ∧ checkS single R G V [⟨2, 0, []⟩] = true) : q = (V == boundS R G) := by
  have hb := legal_bound hL
  have hc := check_bound (single := single) hL.1 V 0 []
  rw [hc] at h
  have : q = true ↔ (V == boundS R G) = true := by
    rw [h]; simp only [hL, true_and, decide_eq_true_eq, beq_iff_eq]; omega
  cases q <;> cases hv : (V == boundS R G) <;> simp_all

set_option maxRecDepth 20000 in
set_option maxHeartbeats 3200000 in
theorem fitBound_any (ra ga sa : Option Addr) (n c m d k sc : Nat) (single : Bool) (V0 : Int) (R : List Int) (G S : List (Int × Int)) (w : World)
    (_hn : n ≤ 9223372036854775807) (_hm : m ≤ 9223372036854775807) (hk : k ≤ 9223372036854775807) (hR : Ints w ra n R) (hG : Pairs w ga m G) (hS : Pairs w sa k S) (hc : ra = none → c = 0) :
    Calls Try.prog 10 #[.agg #[.slice ra n c, .slice ga m d, .bool single], .agg #[.slice sa k sc, .int .i64 V0]] w fun e w' => e = .returned (.bool true) ∧ Below w.heap.size w w' := by
  have hb0 : Below w.heap.size w ((w.alloc (.cells #[.slice ra n c, .slice ga m d, .bool single] 25)).alloc (.cells #[.slice sa k sc, .int .i64 V0] 30)) := ((Below.refl _ _).alloc (Nat.le_refl _) _).alloc (by simp) _
  have HP0 : Hid (ProbAt ((w.alloc (.cells #[.slice ra n c, .slice ga m d, .bool single] 25)).alloc (.cells #[.slice sa k sc, .int .i64 V0] 30)) w.heap.size n m ra ga c d single R G) := ⟨(Box.new rfl).alloc _, hR.below hb0, hG.below hb0, hc⟩
  have HX0 : Hid (PackAt ((w.alloc (.cells #[.slice ra n c, .slice ga m d, .bool single] 25)).alloc (.cells #[.slice sa k sc, .int .i64 V0] 30)) (w.heap.size + 1) k sa sc S V0) := ⟨Box.new (by simp), hS.below hb0⟩
  have HGL := Lib.hid hG.1; have HRL := Lib.hid hR.1; have HSL := Lib.hid hS.1
  clear hR hG hS hc
  go_enter Try.func10, Try.ntmps10
  go_upto_region 1 with fail
  generalize ((w.alloc (.cells #[.slice ra n c, .slice ga m d, .bool single] 25)).alloc (.cells #[.slice sa k sc, .int .i64 V0] 30)) = w0 at *
  go_wp2_with fail
  refine (head22_any _).mono ?_
  rintro e w1 ⟨rfl, hb1⟩
  have HP := Lib.hid (HP0.out.below hb1); have HX := Lib.hid (HX0.out.below hb1); have HBW := Lib.hid (hb0.trans (hb1.mono hb0.size))
  clear hb0 hb1 HP0 HX0
  have p0 := HP.out.box.cell 0
  have p1 := HP.out.box.cell 1
  have p2 := HP.out.box.cell 2
  simp only [List.getElem?_toArray, List.getElem?_cons_zero, List.getElem?_cons_succ] at p0 p1 p2
  go_wp2_with fail
  refine (few_any ra ga n c m d single 40 w1).mono ?_
  rintro e w2 ⟨rfl, hb2⟩
  have HP2 := Lib.hid (HP.out.below hb2); have HX2 := Lib.hid (HX.out.below hb2); have HBW2 := Lib.hid (HBW.out.trans (hb2.mono HBW.out.size))
  clear p0 p1 p2 hb2 HP HX HBW
  by_cases hfew : n ≤ 40 ∧ m ≤ 40
  · rw [show decide (n ≤ 40 ∧ m ≤ 40) = true from decide_eq_true hfew]
    obtain ⟨hn, hm⟩ := hfew
    have y0 := HX2.out.box.cell 0
    simp only [List.getElem?_toArray, List.getElem?_cons_zero, List.getElem?_cons_succ] at y0
    by_cases hk60 : 60 < k
    · have e1 : decide ((60 : Int) < (k : Int)) = true := by simp; omega
      go_wp2_with fail
      go_ret
      exact ⟨rfl, HBW2.out⟩
    · have e1 : decide ((60 : Int) < (k : Int)) = false := by simp; omega
      have y1 := HX2.out.box.cell 1
      have p0 := HP2.out.box.cell 0
      have p1 := HP2.out.box.cell 1
      have p2 := HP2.out.box.cell 2
      simp only [List.getElem?_toArray, List.getElem?_cons_zero, List.getElem?_cons_succ] at y1 p0 p1 p2
      go_wp2_with fail
      refine (legal_any ra ga sa n c m d k sc single V0 R G S w2 (by omega) (by omega) (by omega) HP2.out.runs HP2.out.groups HX2.out.spots).mono ?_
      rintro e w3 ⟨q, rfl, hb3, hq⟩
      have HP3 := Lib.hid (HP2.out.below hb3); have HX3 := Lib.hid (HX2.out.below hb3); have HBW3 := Lib.hid (HBW2.out.trans (hb3.mono HBW2.out.size))
      have HQ := Lib.hid hq
      clear y0 y1 p0 p1 p2 hb3 HP2 HX2 HBW2 hq e1
      cases q
      · go_wp2_with fail
        go_ret
        exact ⟨rfl, HBW3.out⟩
      · have HL := Lib.hid (HQ.out.mp rfl)
        have hv0 : 0 ≤ V0 := legal_value0 HL.out
        have hvb : V0 ≤ boundS R G := legal_bound HL.out
        obtain ⟨B, hB⟩ : ∃ B, boundS R G = B := ⟨_, rfl⟩
        rw [hB] at hvb
        have HB := Lib.hid hB
        obtain ⟨b, hbb⟩ : ∃ b, (V0 == B) = b := ⟨_, rfl⟩
        have t1 : decide (0 ≤ V0) = true := by simp; exact hv0
        have t2 : decide (V0 ≤ B) = true := by simp; exact hvb
        have HONE : Hid (∀ q, (q = true ↔ LegalP single R G S V0 ∧ 0 < 1 ∧ 1 ≤ 100000 ∧ checkS single R G V0 [⟨2, 0, []⟩] = true) → q = b) := fun q h => by rw [check_one HL.out h, HB.out]; exact hbb
        clear hB HQ hv0 hvb
        have hb : Below w3.heap.size w3 ((w3.alloc (.cells #[.int .i64 2, .int .i64 0, .slice none 0 0] 51)).alloc (.cells #[.slice (some ⟨w3.heap.size, 0, none⟩) 1 1] 46)) := (al _ _).trans ((al _ _).mono (by simp))
        have HF : Hid (ProofAt ((w3.alloc (.cells #[.int .i64 2, .int .i64 0, .slice none 0 0] 51)).alloc (.cells #[.slice (some ⟨w3.heap.size, 0, none⟩) 1 1] 46)) (w3.heap.size + 1) 1 (some ⟨w3.heap.size, 0, none⟩) 1 [⟨2, 0, []⟩]) := ⟨Box.new (by simp), steps1 ((Box.new rfl).alloc _)⟩
        have HP4 := Lib.hid (HP3.out.below hb); have HX4 := Lib.hid (HX3.out.below hb); have HBW4 := Lib.hid (HBW3.out.trans (hb.mono HBW3.out.size))
        clear hb HP3 HX3 HBW3
        go_upto_region 5 with fail
        generalize ((w3.alloc (.cells #[.int .i64 2, .int .i64 0, .slice none 0 0] 51)).alloc (.cells #[.slice (some ⟨w3.heap.size, 0, none⟩) 1 1] 46)) = w4 at *
        obtain ⟨fb, hfb⟩ : ∃ x, w3.heap.size + 1 = x := ⟨_, rfl⟩
        simp only [hfb] at HF ⊢
        clear hfb
        refine wp_region_held_drew (S := fun w' => Below w4.heap.size w4 w') (by kernel_rfl) ((Below.refl _ _).drew) (fun hHeld => ?_)
        refine take_at (i := 0) (v := ?_) 27 rfl rfl (by kernel_rfl) (by kernel_rfl) (by kernel_rfl) (fun _ _ _ h => h) (Or.inl ⟨by rfl, ?_⟩) hHeld ?_
        rotate_left
        · intro w hSw; go_simp <;> with_reducible rfl
        try simp only [Act.put, List.setIfInBounds_toArray, List.set_cons_zero, List.set_cons_succ]
        refine take_at (i := 1) (v := ?_) 28 rfl rfl (by kernel_rfl) (by kernel_rfl) (by kernel_rfl) (fun _ _ _ h => h) (Or.inl ⟨by rfl, ?_⟩) hHeld ?_
        rotate_left
        · intro w hSw; go_simp <;> with_reducible rfl
        try simp only [Act.put, List.setIfInBounds_toArray, List.set_cons_zero, List.set_cons_succ]
        refine take_at (i := 2) (v := ?_) 29 rfl rfl (by kernel_rfl) (by kernel_rfl) (by kernel_rfl) (fun _ _ _ h => h) (Or.inl ⟨by rfl, ?_⟩) hHeld ?_
        rotate_left
        · intro w hSw; go_simp <;> with_reducible rfl
        try simp only [Act.put, List.setIfInBounds_toArray, List.set_cons_zero, List.set_cons_succ]
        refine take_at (i := 3) (v := ?_) 30 rfl rfl (by kernel_rfl) (by kernel_rfl) (by kernel_rfl) (fun _ _ _ h => h) (Or.inl ⟨by rfl, ?_⟩) hHeld ?_
        rotate_left
        · intro w hSw
          have q0 := (HX4.out.below hSw).box.cell 0
          have q1 := (HX4.out.below hSw).box.cell 1
          simp only [List.getElem?_toArray, List.getElem?_cons_zero, List.getElem?_cons_succ] at q0 q1
          go_simp <;> with_reducible rfl
        try simp only [Act.put, List.setIfInBounds_toArray, List.set_cons_zero, List.set_cons_succ]
        refine take_at (i := 4) (v := ?_) 31 rfl rfl (by kernel_rfl) (by kernel_rfl) (by kernel_rfl) (fun _ _ _ h => h) (Or.inl ⟨by rfl, ?_⟩) hHeld ?_
        rotate_left
        · intro w hSw; go_simp <;> with_reducible rfl
        try simp only [Act.put, List.setIfInBounds_toArray, List.set_cons_zero, List.set_cons_succ]
        refine take_at (i := 5) (v := ?_) 32 rfl rfl (by kernel_rfl) (by kernel_rfl) (by kernel_rfl) (fun _ _ _ h => h) (Or.inl ⟨by rfl, ?_⟩) hHeld ?_
        rotate_left
        · intro w hSw; go_simp <;> with_reducible rfl
        try simp only [Act.put, List.setIfInBounds_toArray, List.set_cons_zero, List.set_cons_succ]
        refine take_at (i := 6) (v := ?_) 33 rfl rfl (by kernel_rfl) (by kernel_rfl) (by kernel_rfl) (fun _ _ _ h => h) (Or.inl ⟨by rfl, ?_⟩) hHeld ?_
        rotate_left
        · intro w hSw; go_simp <;> with_reducible rfl
        try simp only [Act.put, List.setIfInBounds_toArray, List.set_cons_zero, List.set_cons_succ]
        refine take_at (i := 7) (v := ?_) 34 rfl rfl (by kernel_rfl) (by kernel_rfl) (by kernel_rfl) (fun _ _ _ h => h) (Or.inl ⟨by rfl, ?_⟩) hHeld ?_
        rotate_left
        · intro w hSw; go_simp <;> with_reducible rfl
        try simp only [Act.put, List.setIfInBounds_toArray, List.set_cons_zero, List.set_cons_succ]
        refine take_at (i := 8) (v := ?_) 35 rfl rfl (by kernel_rfl) (by kernel_rfl) (by kernel_rfl) (fun _ _ _ h => h) (Or.inl ⟨by rfl, ?_⟩) hHeld ?_
        rotate_left
        · intro w hSw
          have q0 := (HX4.out.below hSw).box.cell 0
          have q1 := (HX4.out.below hSw).box.cell 1
          simp only [List.getElem?_toArray, List.getElem?_cons_zero, List.getElem?_cons_succ] at q0 q1
          go_simp <;> with_reducible rfl
        try simp only [Act.put, List.setIfInBounds_toArray, List.set_cons_zero, List.set_cons_succ]
        refine take_at (i := 9) (v := ?_) 36 rfl rfl (by kernel_rfl) (by kernel_rfl) (by kernel_rfl) (fun _ _ _ h => h) (Or.inl ⟨by rfl, ?_⟩) hHeld ?_
        rotate_left
        · intro w hSw
          have q0 := (HP4.out.below hSw).box.cell 0
          have q1 := (HP4.out.below hSw).box.cell 1
          have q2 := (HP4.out.below hSw).box.cell 2
          simp only [List.getElem?_toArray, List.getElem?_cons_zero, List.getElem?_cons_succ] at q0 q1 q2
          go_simp <;> with_reducible rfl
        try simp only [Act.put, List.setIfInBounds_toArray, List.set_cons_zero, List.set_cons_succ]
        refine wpAnyH_ready (rs := [10]) (by kernel_rfl) (by simp) ?_
        refine AllReadyH.cons rfl (fun K' hK => ?_) AllReadyH.nil
        go_simp
        refine (bound_any ra ga n c m d single R G _ (by omega) (by omega) (HP4.out.below hHeld).runs (HP4.out.below hHeld).groups).mono ?_
        rintro e u101 ⟨rfl, hb⟩
        rw [HB.out]
        go_simp
        refine hK.out _ _ (hHeld.trans (hb.mono hHeld.size)) (fun hHeld2 => ?_)
        clear hK K' hb hHeld
        have hHeld := hHeld2
        clear hHeld2
        refine take_at (i := 11) (v := ?_) 38 rfl rfl (by kernel_rfl) (by kernel_rfl) (by kernel_rfl) (fun _ _ _ h => h) (Or.inl ⟨by rfl, ?_⟩) hHeld ?_
        rotate_left
        · intro w hSw; go_simp <;> with_reducible rfl
        try simp only [Act.put, List.setIfInBounds_toArray, List.set_cons_zero, List.set_cons_succ]
        refine take_at (i := 12) (v := ?_) 39 rfl rfl (by kernel_rfl) (by kernel_rfl) (by kernel_rfl) (fun _ _ _ h => h) (Or.inl ⟨by rfl, ?_⟩) hHeld ?_
        rotate_left
        · intro w hSw; go_simp <;> with_reducible rfl
        try simp only [Act.put, List.setIfInBounds_toArray, List.set_cons_zero, List.set_cons_succ]
        refine take_at (i := 13) (v := ?_) 40 rfl rfl (by kernel_rfl) (by kernel_rfl) (by kernel_rfl) (fun _ _ _ h => h) (Or.inl ⟨by rfl, ?_⟩) hHeld ?_
        rotate_left
        · intro w hSw; go_simp <;> with_reducible rfl
        try simp only [Act.put, List.setIfInBounds_toArray, List.set_cons_zero, List.set_cons_succ]
        refine take_at (i := 14) (v := ?_) 41 rfl rfl (by kernel_rfl) (by kernel_rfl) (by kernel_rfl) (fun _ _ _ h => h) (Or.inl ⟨by rfl, ?_⟩) hHeld ?_
        rotate_left
        · intro w hSw
          have q0 := (HP4.out.below hSw).box.cell 0
          have q1 := (HP4.out.below hSw).box.cell 1
          have q2 := (HP4.out.below hSw).box.cell 2
          simp only [List.getElem?_toArray, List.getElem?_cons_zero, List.getElem?_cons_succ] at q0 q1 q2
          go_simp <;> with_reducible rfl
        try simp only [Act.put, List.setIfInBounds_toArray, List.set_cons_zero, List.set_cons_succ]
        refine take_at (i := 15) (v := ?_) 42 rfl rfl (by kernel_rfl) (by kernel_rfl) (by kernel_rfl) (fun _ _ _ h => h) (Or.inl ⟨by rfl, ?_⟩) hHeld ?_
        rotate_left
        · intro w hSw
          have q0 := (HX4.out.below hSw).box.cell 0
          have q1 := (HX4.out.below hSw).box.cell 1
          simp only [List.getElem?_toArray, List.getElem?_cons_zero, List.getElem?_cons_succ] at q0 q1
          go_simp <;> with_reducible rfl
        try simp only [Act.put, List.setIfInBounds_toArray, List.set_cons_zero, List.set_cons_succ]
        refine take_at (i := 16) (v := ?_) 43 rfl rfl (by kernel_rfl) (by kernel_rfl) (by kernel_rfl) (fun _ _ _ h => h) (Or.inl ⟨by rfl, ?_⟩) hHeld ?_
        rotate_left
        · intro w hSw
          have q0 := (HF.out.below hSw).box.cell 0
          simp only [List.getElem?_toArray, List.getElem?_cons_zero, List.getElem?_cons_succ] at q0
          go_simp <;> with_reducible rfl
        try simp only [Act.put, List.setIfInBounds_toArray, List.set_cons_zero, List.set_cons_succ]
        refine take_at (i := 18) (v := ?_) 45 rfl rfl (by kernel_rfl) (by kernel_rfl) (by kernel_rfl) (fun _ _ _ h => h) (Or.inl ⟨by rfl, ?_⟩) hHeld ?_
        rotate_left
        · intro w hSw; go_simp <;> with_reducible rfl
        try simp only [Act.put, List.setIfInBounds_toArray, List.set_cons_zero, List.set_cons_succ]
        refine take_at (i := 19) (v := ?_) 46 rfl rfl (by kernel_rfl) (by kernel_rfl) (by kernel_rfl) (fun _ _ _ h => h) (Or.inl ⟨by rfl, ?_⟩) hHeld ?_
        rotate_left
        · intro w hSw
          have q0 := (HX4.out.below hSw).box.cell 0
          have q1 := (HX4.out.below hSw).box.cell 1
          simp only [List.getElem?_toArray, List.getElem?_cons_zero, List.getElem?_cons_succ] at q0 q1
          go_simp <;> with_reducible rfl
        try simp only [Act.put, List.setIfInBounds_toArray, List.set_cons_zero, List.set_cons_succ]
        refine take_at (i := 20) (v := ?_) 47 rfl rfl (by kernel_rfl) (by kernel_rfl) (by kernel_rfl) (fun _ _ _ h => h) (Or.inl ⟨by rfl, ?_⟩) hHeld ?_
        rotate_left
        · intro w hSw
          have q0 := (HP4.out.below hSw).box.cell 0
          have q1 := (HP4.out.below hSw).box.cell 1
          have q2 := (HP4.out.below hSw).box.cell 2
          simp only [List.getElem?_toArray, List.getElem?_cons_zero, List.getElem?_cons_succ] at q0 q1 q2
          go_simp <;> with_reducible rfl
        try simp only [Act.put, List.setIfInBounds_toArray, List.set_cons_zero, List.set_cons_succ]
        refine wpAnyH_ready (rs := [17]) (by kernel_rfl) (by simp) ?_
        refine AllReadyH.cons rfl (fun K' hK => ?_) AllReadyH.nil
        go_simp
        refine (check_any ra ga sa (some ⟨w3.heap.size, 0, none⟩) n c m d k sc 1 1 single V0 R G S [⟨2, 0, []⟩] _ (by omega) (by omega) (by omega) (HP4.out.below hHeld).runs (HP4.out.below hHeld).groups (HX4.out.below hHeld).spots (HF.out.below hHeld).steps (HP4.out.below hHeld).nil).mono ?_
        rintro e u102 ⟨q, rfl, hb, hq⟩
        obtain rfl := HONE.out q hq
        clear hq
        go_simp
        refine hK.out _ _ (hHeld.trans (hb.mono hHeld.size)) (fun hHeld2 => ?_)
        clear hK K' hb hHeld
        have hHeld := hHeld2
        clear hHeld2
        refine wpAnyH_ready (rs := [21]) (by kernel_rfl) (by simp) ?_
        refine AllReadyH.cons rfl (fun K' hK => ?_) AllReadyH.nil
        go_simp
        refine (bound_any ra ga n c m d single R G _ (by omega) (by omega) (HP4.out.below hHeld).runs (HP4.out.below hHeld).groups).mono ?_
        rintro e u103 ⟨rfl, hb⟩
        rw [HB.out]
        go_simp
        refine hK.out _ _ (hHeld.trans (hb.mono hHeld.size)) (fun hHeld2 => ?_)
        clear hK K' hb hHeld
        have hHeld := hHeld2
        clear hHeld2
        cases q
        all_goals
          refine take_at (i := 22) (v := ?_) 49 rfl rfl (by kernel_rfl) (by kernel_rfl) (by kernel_rfl) (fun _ _ _ h => h) (Or.inl ⟨by rfl, ?_⟩) hHeld ?_
          rotate_left
          · intro w hSw; go_simp <;> with_reducible rfl
          try simp only [Act.put, List.setIfInBounds_toArray, List.set_cons_zero, List.set_cons_succ]
          refine take_at (i := 23) (v := ?_) 50 rfl rfl (by kernel_rfl) (by kernel_rfl) (by kernel_rfl) (fun _ _ _ h => h) (Or.inl ⟨by rfl, ?_⟩) hHeld ?_
          rotate_left
          · intro w hSw; go_simp <;> with_reducible rfl
          try simp only [Act.put, List.setIfInBounds_toArray, List.set_cons_zero, List.set_cons_succ]
          refine take_at (i := 24) (v := ?_) 51 rfl rfl (by kernel_rfl) (by kernel_rfl) (by kernel_rfl) (fun _ _ _ h => h) (Or.inl ⟨by rfl, ?_⟩) hHeld ?_
          rotate_left
          · intro w hSw; go_simp <;> with_reducible rfl
          try simp only [Act.put, List.setIfInBounds_toArray, List.set_cons_zero, List.set_cons_succ]
          refine take_at (i := 25) (v := ?_) 4 rfl rfl (by kernel_rfl) (by kernel_rfl) (by kernel_rfl) (fun _ _ _ h => h) (Or.inl ⟨by rfl, ?_⟩) hHeld ?_
          rotate_left
          · intro w hSw; go_simp <;> with_reducible rfl
          try simp only [Act.put, List.setIfInBounds_toArray, List.set_cons_zero, List.set_cons_succ]
          refine wpAnyH_done (by kernel_rfl) ?_ _
          go_wp2_with fail
          go_ret
          exact ⟨rfl, HBW4.out.trans (hHeld.mono HBW4.out.size)⟩
  · rw [show decide (n ≤ 40 ∧ m ≤ 40) = false from decide_eq_false hfew]
    go_wp2_with fail
    go_ret
    exact ⟨rfl, HBW2.out⟩
end Go.Proofs.Ytaomlhhlefpdeaa
