/- foyerlaw22.FitExact: the walk (printed by wip/fegen.py); What an argument of type Proof gives the walks. -/
import Derived.Test.YtaomlhhlefpdeaaQFitBound17
import Derived.Test.YtaomlhhlefpdeaaQFitBound50
import Derived.Test.YtaomlhhlefpdeaaQFitBound53
import Derived.Test.YtaomlhhlefpdeaaQFitExact00

namespace Go.Proofs.Ytaomlhhlefpdeaa
open Go.RowKit

theorem exact_bool {single : Bool} {R : List Int} {G S : List (Int × Int)} {V : Int} {l : Nat} {q b : Bool} (hL : LegalP single R G S V) (hn : R.length ≤ 4) (hm : G.length ≤ 4) (hb : (V == bestS single R G) = b) (hl : l = (proveL single R G).length)
    (h : q = true ↔ LegalP single R G S V ∧ 0 < l ∧ l ≤ 100000 ∧ checkS single R G V (proveL single R G) = true) : q = b := by
  have e := (exact_law hL hn).2.1
  have h1 := prvF_len (single := single) (R := R) (G := G) hn G.length (List.replicate G.length (-2)) 0
  have h2 := prvCap_le G.length hm
  have h3 : l = (prvF single R G G.length (List.replicate G.length (-2)) 0).length := hl
  have hq : q = true ↔ V = bestS single R G := by
    rw [h, ← e]
    exact ⟨fun x => x.2.2.2, fun x => ⟨hL, by omega, by omega, x⟩⟩
  have hbb : b = true ↔ V = bestS single R G := by rw [← hb]; exact beq_iff_eq
  exact Bool.eq_iff_iff.mpr (hq.trans hbb.symm)

set_option maxRecDepth 20000 in
set_option maxHeartbeats 3200000 in
theorem fitExact_any (ra ga sa pa : Option Addr) (n c m d k sc l pc : Nat) (single : Bool) (V0 : Int) (R : List Int) (G S : List (Int × Int)) (T : List StepT) (w : World)
    (hk : k ≤ 9223372036854775807) (hl : l ≤ 9223372036854775807) (hR : Ints w ra n R) (hG : Pairs w ga m G) (hS : Pairs w sa k S) (hT : Steps w pa l T) (hc : ra = none → c = 0) :
    Calls Try.prog 12 #[.agg #[.slice ra n c, .slice ga m d, .bool single], .agg #[.slice sa k sc, .int .i64 V0], .agg #[.slice pa l pc]] w fun e w' => e = .returned (.bool true) ∧ Below w.heap.size w w' := by
  have hb0 : Below w.heap.size w (((w.alloc (.cells #[.slice ra n c, .slice ga m d, .bool single] 25)).alloc (.cells #[.slice sa k sc, .int .i64 V0] 30)).alloc (.cells #[.slice pa l pc] 46)) := (((Below.refl _ _).alloc (Nat.le_refl _) _).alloc (by simp) _).alloc (by simp; omega) _
  have HP0 : Hid (ProbAt (((w.alloc (.cells #[.slice ra n c, .slice ga m d, .bool single] 25)).alloc (.cells #[.slice sa k sc, .int .i64 V0] 30)).alloc (.cells #[.slice pa l pc] 46)) w.heap.size n m ra ga c d single R G) := ⟨((Box.new rfl).alloc _).alloc _, hR.below hb0, hG.below hb0, hc⟩
  have HX0 : Hid (PackAt (((w.alloc (.cells #[.slice ra n c, .slice ga m d, .bool single] 25)).alloc (.cells #[.slice sa k sc, .int .i64 V0] 30)).alloc (.cells #[.slice pa l pc] 46)) (w.heap.size + 1) k sa sc S V0) := ⟨(Box.new (by simp)).alloc _, hS.below hb0⟩
  have HF0 : Hid (ProofAt (((w.alloc (.cells #[.slice ra n c, .slice ga m d, .bool single] 25)).alloc (.cells #[.slice sa k sc, .int .i64 V0] 30)).alloc (.cells #[.slice pa l pc] 46)) (w.heap.size + 1 + 1) l pa pc T) := ⟨Box.new (by simp), hT.below hb0⟩
  have HBW0 := Lib.hid hb0
  have HRL : Hid (R.length = n ∧ G.length = m) := ⟨hR.1, hG.1⟩
  clear hR hG hS hT hc hb0
  go_enter Try.func12, Try.ntmps12
  go_upto_region 1 with fail
  generalize (((w.alloc (.cells #[.slice ra n c, .slice ga m d, .bool single] 25)).alloc (.cells #[.slice sa k sc, .int .i64 V0] 30)).alloc (.cells #[.slice pa l pc] 46)) = w0 at *
  go_wp2_with fail
  refine (head22_any _).mono ?_
  rintro e w1 ⟨rfl, hb⟩
  have HP1 := Lib.hid (HP0.out.below hb)
  have HX1 := Lib.hid (HX0.out.below hb)
  have HF1 := Lib.hid (HF0.out.below hb)
  have HBW1 := Lib.hid (HBW0.out.trans (hb.mono HBW0.out.size))
  clear hb HP0 HX0 HF0 HBW0
  have p0 := HP1.out.box.cell 0
  have p1 := HP1.out.box.cell 1
  have p2 := HP1.out.box.cell 2
  simp only [List.getElem?_toArray, List.getElem?_cons_zero, List.getElem?_cons_succ] at p0 p1 p2
  go_wp2_with fail
  refine (few_any ra ga n c m d single 4 w1).mono ?_
  rintro e w2 ⟨rfl, hb⟩
  have HP2 := Lib.hid (HP1.out.below hb)
  have HX2 := Lib.hid (HX1.out.below hb)
  have HF2 := Lib.hid (HF1.out.below hb)
  have HBW2 := Lib.hid (HBW1.out.trans (hb.mono HBW1.out.size))
  clear hb HP1 HX1 HF1 HBW1
  clear p0 p1 p2
  by_cases hfew : n ≤ 4 ∧ m ≤ 4
  · rw [show decide (n ≤ 4 ∧ m ≤ 4) = true from decide_eq_true hfew]
    obtain ⟨hn, hm⟩ := hfew
    have f0 := HF2.out.box.cell 0
    simp only [List.getElem?_toArray, List.getElem?_cons_zero] at f0
    go_wp2_with fail
    refine (short_any pa l pc 400 T w2 hl HF2.out.steps).mono ?_
    rintro e w3 ⟨⟨q, rfl⟩, hb⟩
    have HP3 := Lib.hid (HP2.out.below hb)
    have HX3 := Lib.hid (HX2.out.below hb)
    have HF3 := Lib.hid (HF2.out.below hb)
    have HBW3 := Lib.hid (HBW2.out.trans (hb.mono HBW2.out.size))
    clear hb HP2 HX2 HF2 HBW2
    clear f0
    cases q
    · go_wp2_with fail
      go_ret
      exact ⟨rfl, HBW3.out⟩
    · have p0 := HP3.out.box.cell 0
      have p1 := HP3.out.box.cell 1
      have p2 := HP3.out.box.cell 2
      have x0 := HX3.out.box.cell 0
      have x1 := HX3.out.box.cell 1
      simp only [List.getElem?_toArray, List.getElem?_cons_zero, List.getElem?_cons_succ] at p0 p1 p2 x0 x1
      by_cases h60 : 60 < k
      · have e1 : decide ((60 : Int) < (k : Int)) = true := by simp; omega
        go_wp2_with fail
        go_ret
        exact ⟨rfl, HBW3.out⟩
      · have e1 : decide ((60 : Int) < (k : Int)) = false := by simp; omega
        go_wp2_with fail
        refine (legal_any ra ga sa n c m d k sc single V0 R G S w3 (by omega) (by omega) (by omega) HP3.out.runs HP3.out.groups HX3.out.spots).mono ?_
        rintro e w4 ⟨q, rfl, hb, hq⟩
        have HQ := Lib.hid hq
        have HP4 := Lib.hid (HP3.out.below hb)
        have HX4 := Lib.hid (HX3.out.below hb)
        have HF4 := Lib.hid (HF3.out.below hb)
        have HBW4 := Lib.hid (HBW3.out.trans (hb.mono HBW3.out.size))
        clear hb HP3 HX3 HF3 HBW3
        clear hq e1 p0 p1 p2 x0 x1
        cases q
        · go_wp2_with fail
          go_ret
          exact ⟨rfl, HBW4.out⟩
        · have HL := Lib.hid (HQ.out.mp rfl)
          clear HQ
          have HV : Hid (ValuesOk G ∧ ∀ r, r < n → 0 ≤ ix R r ∧ ix R r ≤ 4000) := by
            have hv := validS_parts ((legal_iff ..).mp HL.out).1
            have hs := (runsOk_sum R 4000 (by omega) hv.1).2.2
            exact ⟨hv.2.2, fun r hr => by have := hs r (by rw [HRL.out.1]; exact hr); omega⟩
          have p0 := HP4.out.box.cell 0
          have p1 := HP4.out.box.cell 1
          have p2 := HP4.out.box.cell 2
          simp only [List.getElem?_toArray, List.getElem?_cons_zero, List.getElem?_cons_succ] at p0 p1 p2
          go_wp2_with fail
          refine (Best_any ra ga n c m d single R G w4 (by omega) (by omega) HP4.out.runs HP4.out.groups HV.out.1 HV.out.2).mono ?_
          rintro e w5 ⟨rfl, hb⟩
          have HP5 := Lib.hid (HP4.out.below hb)
          have HX5 := Lib.hid (HX4.out.below hb)
          have HF5 := Lib.hid (HF4.out.below hb)
          have HBW5 := Lib.hid (HBW4.out.trans (hb.mono HBW4.out.size))
          clear hb HP4 HX4 HF4 HBW4
          clear p0 p1 p2
          obtain ⟨B, hB⟩ : ∃ B, bestS single R G = B := ⟨_, rfl⟩
          have hle : V0 ≤ B := by rw [← hB]; exact (exact_law HL.out (by rw [HRL.out.1]; exact hn)).1
          obtain ⟨b, hbb⟩ : ∃ b, (V0 == B) = b := ⟨_, rfl⟩
          have t1 : decide (V0 ≤ B) = true := by simp; exact hle
          have HONE : Hid (∀ q, (q = true ↔ LegalP single R G S V0 ∧ 0 < (proveL single R G).length ∧ (proveL single R G).length ≤ 100000 ∧ checkS single R G V0 (proveL single R G) = true) → q = b) := fun q h => exact_bool HL.out (by rw [HRL.out.1]; exact hn) (by rw [HRL.out.2]; exact hm) (by rw [hB]; exact hbb) rfl h
          have HTWO : Hid (∀ q, (q = true ↔ LegalP single R G S V0 ∧ 0 < l ∧ l ≤ 100000 ∧ checkS single R G V0 T = true) → q = true → b = true) := fun q h hq => by
            rw [← hbb, ← hB, beq_iff_eq]; exact (exact_law HL.out (by rw [HRL.out.1]; exact hn)).2.2 T (h.mp hq).2.2.2
          rw [hB]
          clear hB hle
          go_upto_region 5 with fail
          cases b
          all_goals
            refine wp_region_held_drew (S := fun w' => Below w5.heap.size w5 w') (by kernel_rfl) ((Below.refl _ _).drew) (fun hHeld => ?_)
            refine take_at (i := 0) (v := ?_) 33 rfl rfl (by kernel_rfl) (by kernel_rfl) (by kernel_rfl) (fun _ _ _ h => h) (Or.inl ⟨by rfl, ?_⟩) hHeld ?_
            rotate_left
            · intro w hSw; go_simp <;> with_reducible rfl
            try simp only [Act.put, List.setIfInBounds_toArray, List.set_cons_zero, List.set_cons_succ]
            refine take_at (i := 1) (v := ?_) 34 rfl rfl (by kernel_rfl) (by kernel_rfl) (by kernel_rfl) (fun _ _ _ h => h) (Or.inl ⟨by rfl, ?_⟩) hHeld ?_
            rotate_left
            · intro w hSw; go_simp <;> with_reducible rfl
            try simp only [Act.put, List.setIfInBounds_toArray, List.set_cons_zero, List.set_cons_succ]
            refine take_at (i := 2) (v := ?_) 35 rfl rfl (by kernel_rfl) (by kernel_rfl) (by kernel_rfl) (fun _ _ _ h => h) (Or.inl ⟨by rfl, ?_⟩) hHeld ?_
            rotate_left
            · intro w hSw; go_simp <;> with_reducible rfl
            try simp only [Act.put, List.setIfInBounds_toArray, List.set_cons_zero, List.set_cons_succ]
            refine take_at (i := 3) (v := ?_) 36 rfl rfl (by kernel_rfl) (by kernel_rfl) (by kernel_rfl) (fun _ _ _ h => h) (Or.inl ⟨by rfl, ?_⟩) hHeld ?_
            rotate_left
            · intro w hSw
              have q0 := (HX5.out.below hSw).box.cell 0
              have q1 := (HX5.out.below hSw).box.cell 1
              simp only [List.getElem?_toArray, List.getElem?_cons_zero, List.getElem?_cons_succ] at q0 q1
              go_simp <;> with_reducible rfl
            try simp only [Act.put, List.setIfInBounds_toArray, List.set_cons_zero, List.set_cons_succ]
            refine take_at (i := 4) (v := ?_) 37 rfl rfl (by kernel_rfl) (by kernel_rfl) (by kernel_rfl) (fun _ _ _ h => h) (Or.inl ⟨by rfl, ?_⟩) hHeld ?_
            rotate_left
            · intro w hSw; go_simp <;> with_reducible rfl
            try simp only [Act.put, List.setIfInBounds_toArray, List.set_cons_zero, List.set_cons_succ]
            refine take_at (i := 5) (v := ?_) 38 rfl rfl (by kernel_rfl) (by kernel_rfl) (by kernel_rfl) (fun _ _ _ h => h) (Or.inl ⟨by rfl, ?_⟩) hHeld ?_
            rotate_left
            · intro w hSw; go_simp <;> with_reducible rfl
            try simp only [Act.put, List.setIfInBounds_toArray, List.set_cons_zero, List.set_cons_succ]
            refine take_at (i := 6) (v := ?_) 39 rfl rfl (by kernel_rfl) (by kernel_rfl) (by kernel_rfl) (fun _ _ _ h => h) (Or.inl ⟨by rfl, ?_⟩) hHeld ?_
            rotate_left
            · intro w hSw; go_simp <;> with_reducible rfl
            try simp only [Act.put, List.setIfInBounds_toArray, List.set_cons_zero, List.set_cons_succ]
            refine take_at (i := 7) (v := ?_) 40 rfl rfl (by kernel_rfl) (by kernel_rfl) (by kernel_rfl) (fun _ _ _ h => h) (Or.inl ⟨by rfl, ?_⟩) hHeld ?_
            rotate_left
            · intro w hSw; go_simp <;> with_reducible rfl
            try simp only [Act.put, List.setIfInBounds_toArray, List.set_cons_zero, List.set_cons_succ]
            refine take_at (i := 8) (v := ?_) 41 rfl rfl (by kernel_rfl) (by kernel_rfl) (by kernel_rfl) (fun _ _ _ h => h) (Or.inl ⟨by rfl, ?_⟩) hHeld ?_
            rotate_left
            · intro w hSw
              have q0 := (HP5.out.below hSw).box.cell 0
              have q1 := (HP5.out.below hSw).box.cell 1
              have q2 := (HP5.out.below hSw).box.cell 2
              simp only [List.getElem?_toArray, List.getElem?_cons_zero, List.getElem?_cons_succ] at q0 q1 q2
              go_simp <;> with_reducible rfl
            try simp only [Act.put, List.setIfInBounds_toArray, List.set_cons_zero, List.set_cons_succ]
            refine take_at (i := 9) (v := ?_) 42 rfl rfl (by kernel_rfl) (by kernel_rfl) (by kernel_rfl) (fun _ _ _ h => h) (Or.inl ⟨by rfl, ?_⟩) hHeld ?_
            rotate_left
            · intro w hSw
              have q0 := (HX5.out.below hSw).box.cell 0
              have q1 := (HX5.out.below hSw).box.cell 1
              simp only [List.getElem?_toArray, List.getElem?_cons_zero, List.getElem?_cons_succ] at q0 q1
              go_simp <;> with_reducible rfl
            try simp only [Act.put, List.setIfInBounds_toArray, List.set_cons_zero, List.set_cons_succ]
            refine take_at (i := 10) (v := ?_) 43 rfl rfl (by kernel_rfl) (by kernel_rfl) (by kernel_rfl) (fun _ _ _ h => h) (Or.inl ⟨by rfl, ?_⟩) hHeld ?_
            rotate_left
            · intro w hSw
              have q0 := (HP5.out.below hSw).box.cell 0
              have q1 := (HP5.out.below hSw).box.cell 1
              have q2 := (HP5.out.below hSw).box.cell 2
              simp only [List.getElem?_toArray, List.getElem?_cons_zero, List.getElem?_cons_succ] at q0 q1 q2
              go_simp <;> with_reducible rfl
            try simp only [Act.put, List.setIfInBounds_toArray, List.set_cons_zero, List.set_cons_succ]
            refine take_at (i := 13) (v := ?_) 46 rfl rfl (by kernel_rfl) (by kernel_rfl) (by kernel_rfl) (fun _ _ _ h => h) (Or.inl ⟨by rfl, ?_⟩) hHeld ?_
            rotate_left
            · intro w hSw; go_simp <;> with_reducible rfl
            try simp only [Act.put, List.setIfInBounds_toArray, List.set_cons_zero, List.set_cons_succ]
            refine take_at (i := 14) (v := ?_) 47 rfl rfl (by kernel_rfl) (by kernel_rfl) (by kernel_rfl) (fun _ _ _ h => h) (Or.inl ⟨by rfl, ?_⟩) hHeld ?_
            rotate_left
            · intro w hSw
              have q0 := (HX5.out.below hSw).box.cell 0
              have q1 := (HX5.out.below hSw).box.cell 1
              simp only [List.getElem?_toArray, List.getElem?_cons_zero, List.getElem?_cons_succ] at q0 q1
              go_simp <;> with_reducible rfl
            try simp only [Act.put, List.setIfInBounds_toArray, List.set_cons_zero, List.set_cons_succ]
            refine take_at (i := 15) (v := ?_) 48 rfl rfl (by kernel_rfl) (by kernel_rfl) (by kernel_rfl) (fun _ _ _ h => h) (Or.inl ⟨by rfl, ?_⟩) hHeld ?_
            rotate_left
            · intro w hSw; go_simp <;> with_reducible rfl
            try simp only [Act.put, List.setIfInBounds_toArray, List.set_cons_zero, List.set_cons_succ]
            refine take_at (i := 16) (v := ?_) 49 rfl rfl (by kernel_rfl) (by kernel_rfl) (by kernel_rfl) (fun _ _ _ h => h) (Or.inl ⟨by rfl, ?_⟩) hHeld ?_
            rotate_left
            · intro w hSw; go_simp <;> with_reducible rfl
            try simp only [Act.put, List.setIfInBounds_toArray, List.set_cons_zero, List.set_cons_succ]
            refine wpAnyH_ready (rs := [11]) (by kernel_rfl) (by simp) ?_
            refine AllReadyH.cons rfl (fun K' hK => ?_) AllReadyH.nil
            go_simp
            refine (Prove_any ra ga n c m d single R G _ (by omega) (by omega) (HP5.out.below hHeld).runs (HP5.out.below hHeld).groups HV.out.1 HV.out.2).mono ?_
            rintro e u101 ⟨xa, xc, rfl, hb, hst⟩
            have HST := Lib.hid hst
            clear hst
            obtain ⟨xl, hxl⟩ : ∃ x, (proveL single R G).length = x := ⟨_, rfl⟩
            have HXL := Lib.hid hxl
            rw [hxl]
            clear hxl
            go_simp
            have HST2 : Hid (Steps u101 xa xl (proveL single R G)) := by rw [← HXL.out]; exact HST.out
            refine hK.out _ _ (hHeld.trans (hb.mono hHeld.size)) (fun hHeld2 => ?_)
            clear hK K' hb hHeld
            have hHeld := hHeld2
            clear hHeld2
            refine wpAnyH_ready (rs := [12]) (by kernel_rfl) (by simp) ?_
            refine AllReadyH.cons rfl (fun K' hK => ?_) AllReadyH.nil
            go_simp
            refine (check_any ra ga sa xa n c m d k sc xl xc single V0 R G S (proveL single R G) _ (by omega) (by omega) (by omega) (HP5.out.below hHeld).runs (HP5.out.below hHeld).groups (HX5.out.below hHeld).spots HST2.out (HP5.out.below hHeld).nil).mono ?_
            rintro e u102 ⟨q, rfl, hb, hq⟩
            obtain rfl := HONE.out q (by rw [← HXL.out] at hq; exact hq)
            clear hq HST HST2
            go_simp
            refine hK.out _ _ (hHeld.trans (hb.mono hHeld.size)) (fun hHeld2 => ?_)
            clear hK K' hb hHeld
            have hHeld := hHeld2
            clear hHeld2
            refine take_at (i := 17) (v := ?_) 50 rfl rfl (by kernel_rfl) (by kernel_rfl) (by kernel_rfl) (fun _ _ _ h => h) (Or.inl ⟨by rfl, ?_⟩) hHeld ?_
            rotate_left
            · intro w hSw; go_simp <;> with_reducible rfl
            try simp only [Act.put, List.setIfInBounds_toArray, List.set_cons_zero, List.set_cons_succ]
            refine take_at (i := 18) (v := ?_) 51 rfl rfl (by kernel_rfl) (by kernel_rfl) (by kernel_rfl) (fun _ _ _ h => h) (Or.inl ⟨by rfl, ?_⟩) hHeld ?_
            rotate_left
            · intro w hSw; go_simp <;> with_reducible rfl
            try simp only [Act.put, List.setIfInBounds_toArray, List.set_cons_zero, List.set_cons_succ]
            refine take_at (i := 19) (v := ?_) 52 rfl rfl (by kernel_rfl) (by kernel_rfl) (by kernel_rfl) (fun _ _ _ h => h) (Or.inl ⟨by rfl, ?_⟩) hHeld ?_
            rotate_left
            · intro w hSw; go_simp <;> with_reducible rfl
            try simp only [Act.put, List.setIfInBounds_toArray, List.set_cons_zero, List.set_cons_succ]
            refine take_at (i := 20) (v := ?_) 53 rfl rfl (by kernel_rfl) (by kernel_rfl) (by kernel_rfl) (fun _ _ _ h => h) (Or.inl ⟨by rfl, ?_⟩) hHeld ?_
            rotate_left
            · intro w hSw
              have q0 := (HP5.out.below hSw).box.cell 0
              have q1 := (HP5.out.below hSw).box.cell 1
              have q2 := (HP5.out.below hSw).box.cell 2
              simp only [List.getElem?_toArray, List.getElem?_cons_zero, List.getElem?_cons_succ] at q0 q1 q2
              go_simp <;> with_reducible rfl
            try simp only [Act.put, List.setIfInBounds_toArray, List.set_cons_zero, List.set_cons_succ]
            refine take_at (i := 21) (v := ?_) 54 rfl rfl (by kernel_rfl) (by kernel_rfl) (by kernel_rfl) (fun _ _ _ h => h) (Or.inl ⟨by rfl, ?_⟩) hHeld ?_
            rotate_left
            · intro w hSw
              have q0 := (HX5.out.below hSw).box.cell 0
              have q1 := (HX5.out.below hSw).box.cell 1
              simp only [List.getElem?_toArray, List.getElem?_cons_zero, List.getElem?_cons_succ] at q0 q1
              go_simp <;> with_reducible rfl
            try simp only [Act.put, List.setIfInBounds_toArray, List.set_cons_zero, List.set_cons_succ]
            refine take_at (i := 22) (v := ?_) 55 rfl rfl (by kernel_rfl) (by kernel_rfl) (by kernel_rfl) (fun _ _ _ h => h) (Or.inl ⟨by rfl, ?_⟩) hHeld ?_
            rotate_left
            · intro w hSw
              have q0 := (HF5.out.below hSw).box.cell 0
              simp only [List.getElem?_toArray, List.getElem?_cons_zero] at q0
              go_simp <;> with_reducible rfl
            try simp only [Act.put, List.setIfInBounds_toArray, List.set_cons_zero, List.set_cons_succ]
            refine wpAnyH_ready (rs := [23]) (by kernel_rfl) (by simp) ?_
            refine AllReadyH.cons rfl (fun K' hK => ?_) AllReadyH.nil
            go_simp
            refine (check_any ra ga sa pa n c m d k sc l pc single V0 R G S T _ (by omega) (by omega) (by omega) (HP5.out.below hHeld).runs (HP5.out.below hHeld).groups (HX5.out.below hHeld).spots (HF5.out.below hHeld).steps (HP5.out.below hHeld).nil).mono ?_
            rintro e u103 ⟨q2, rfl, hb, hq⟩
            have HQ2 := Lib.hid (HTWO.out q2 hq)
            clear hq
            go_simp
            refine hK.out _ _ (hHeld.trans (hb.mono hHeld.size)) (fun hHeld2 => ?_)
            clear hK K' hb hHeld
            have hHeld := hHeld2
            clear hHeld2
          · cases q2
            · refine take_at (i := 24) (v := ?_) 57 rfl rfl (by kernel_rfl) (by kernel_rfl) (by kernel_rfl) (fun _ _ _ h => h) (Or.inl ⟨by rfl, ?_⟩) hHeld ?_
              rotate_left
              · intro w hSw; go_simp <;> with_reducible rfl
              try simp only [Act.put, List.setIfInBounds_toArray, List.set_cons_zero, List.set_cons_succ]
              refine take_at (i := 25) (v := ?_) 58 rfl rfl (by kernel_rfl) (by kernel_rfl) (by kernel_rfl) (fun _ _ _ h => h) (Or.inl ⟨by rfl, ?_⟩) hHeld ?_
              rotate_left
              · intro w hSw; go_simp <;> with_reducible rfl
              try simp only [Act.put, List.setIfInBounds_toArray, List.set_cons_zero, List.set_cons_succ]
              refine take_at (i := 26) (v := undef) 59 rfl rfl (by kernel_rfl) (by kernel_rfl) (by kernel_rfl) (fun _ _ _ h => h) (Or.inr ⟨by rfl, rfl⟩) hHeld ?_
              try simp only [Act.put, List.setIfInBounds_toArray, List.set_cons_zero, List.set_cons_succ]
              refine take_at (i := 27) (v := undef) 60 rfl rfl (by kernel_rfl) (by kernel_rfl) (by kernel_rfl) (fun _ _ _ h => h) (Or.inr ⟨by rfl, rfl⟩) hHeld ?_
              try simp only [Act.put, List.setIfInBounds_toArray, List.set_cons_zero, List.set_cons_succ]
              refine take_at (i := 28) (v := undef) 61 rfl rfl (by kernel_rfl) (by kernel_rfl) (by kernel_rfl) (fun _ _ _ h => h) (Or.inr ⟨by rfl, rfl⟩) hHeld ?_
              try simp only [Act.put, List.setIfInBounds_toArray, List.set_cons_zero, List.set_cons_succ]
              refine take_at (i := 29) (v := undef) 62 rfl rfl (by kernel_rfl) (by kernel_rfl) (by kernel_rfl) (fun _ _ _ h => h) (Or.inr ⟨by rfl, rfl⟩) hHeld ?_
              try simp only [Act.put, List.setIfInBounds_toArray, List.set_cons_zero, List.set_cons_succ]
              refine take_at (i := 30) (v := ?_) 63 rfl rfl (by kernel_rfl) (by kernel_rfl) (by kernel_rfl) (fun _ _ _ h => h) (Or.inl ⟨by rfl, ?_⟩) hHeld ?_
              rotate_left
              · intro w hSw; go_simp <;> with_reducible rfl
              try simp only [Act.put, List.setIfInBounds_toArray, List.set_cons_zero, List.set_cons_succ]
              refine take_at (i := 31) (v := ?_) 64 rfl rfl (by kernel_rfl) (by kernel_rfl) (by kernel_rfl) (fun _ _ _ h => h) (Or.inl ⟨by rfl, ?_⟩) hHeld ?_
              rotate_left
              · intro w hSw; go_simp <;> with_reducible rfl
              try simp only [Act.put, List.setIfInBounds_toArray, List.set_cons_zero, List.set_cons_succ]
              refine take_at (i := 32) (v := ?_) 6 rfl rfl (by kernel_rfl) (by kernel_rfl) (by kernel_rfl) (fun _ _ _ h => h) (Or.inl ⟨by rfl, ?_⟩) hHeld ?_
              rotate_left
              · intro w hSw; go_simp <;> with_reducible rfl
              try simp only [Act.put, List.setIfInBounds_toArray, List.set_cons_zero, List.set_cons_succ]
              refine wpAnyH_done (by kernel_rfl) ?_ _
              go_wp2_with fail
              go_ret
              exact ⟨rfl, HBW5.out.trans (hHeld.mono HBW5.out.size)⟩
            · exact absurd (HQ2.out rfl) (by decide)
          · cases q2
            · refine take_at (i := 24) (v := ?_) 57 rfl rfl (by kernel_rfl) (by kernel_rfl) (by kernel_rfl) (fun _ _ _ h => h) (Or.inl ⟨by rfl, ?_⟩) hHeld ?_
              rotate_left
              · intro w hSw; go_simp <;> with_reducible rfl
              try simp only [Act.put, List.setIfInBounds_toArray, List.set_cons_zero, List.set_cons_succ]
              refine take_at (i := 25) (v := ?_) 58 rfl rfl (by kernel_rfl) (by kernel_rfl) (by kernel_rfl) (fun _ _ _ h => h) (Or.inl ⟨by rfl, ?_⟩) hHeld ?_
              rotate_left
              · intro w hSw; go_simp <;> with_reducible rfl
              try simp only [Act.put, List.setIfInBounds_toArray, List.set_cons_zero, List.set_cons_succ]
              refine take_at (i := 26) (v := undef) 59 rfl rfl (by kernel_rfl) (by kernel_rfl) (by kernel_rfl) (fun _ _ _ h => h) (Or.inr ⟨by rfl, rfl⟩) hHeld ?_
              try simp only [Act.put, List.setIfInBounds_toArray, List.set_cons_zero, List.set_cons_succ]
              refine take_at (i := 27) (v := undef) 60 rfl rfl (by kernel_rfl) (by kernel_rfl) (by kernel_rfl) (fun _ _ _ h => h) (Or.inr ⟨by rfl, rfl⟩) hHeld ?_
              try simp only [Act.put, List.setIfInBounds_toArray, List.set_cons_zero, List.set_cons_succ]
              refine take_at (i := 28) (v := undef) 61 rfl rfl (by kernel_rfl) (by kernel_rfl) (by kernel_rfl) (fun _ _ _ h => h) (Or.inr ⟨by rfl, rfl⟩) hHeld ?_
              try simp only [Act.put, List.setIfInBounds_toArray, List.set_cons_zero, List.set_cons_succ]
              refine take_at (i := 29) (v := undef) 62 rfl rfl (by kernel_rfl) (by kernel_rfl) (by kernel_rfl) (fun _ _ _ h => h) (Or.inr ⟨by rfl, rfl⟩) hHeld ?_
              try simp only [Act.put, List.setIfInBounds_toArray, List.set_cons_zero, List.set_cons_succ]
              refine take_at (i := 30) (v := ?_) 63 rfl rfl (by kernel_rfl) (by kernel_rfl) (by kernel_rfl) (fun _ _ _ h => h) (Or.inl ⟨by rfl, ?_⟩) hHeld ?_
              rotate_left
              · intro w hSw; go_simp <;> with_reducible rfl
              try simp only [Act.put, List.setIfInBounds_toArray, List.set_cons_zero, List.set_cons_succ]
              refine take_at (i := 31) (v := ?_) 64 rfl rfl (by kernel_rfl) (by kernel_rfl) (by kernel_rfl) (fun _ _ _ h => h) (Or.inl ⟨by rfl, ?_⟩) hHeld ?_
              rotate_left
              · intro w hSw; go_simp <;> with_reducible rfl
              try simp only [Act.put, List.setIfInBounds_toArray, List.set_cons_zero, List.set_cons_succ]
              refine take_at (i := 32) (v := ?_) 6 rfl rfl (by kernel_rfl) (by kernel_rfl) (by kernel_rfl) (fun _ _ _ h => h) (Or.inl ⟨by rfl, ?_⟩) hHeld ?_
              rotate_left
              · intro w hSw; go_simp <;> with_reducible rfl
              try simp only [Act.put, List.setIfInBounds_toArray, List.set_cons_zero, List.set_cons_succ]
              refine wpAnyH_done (by kernel_rfl) ?_ _
              go_wp2_with fail
              go_ret
              exact ⟨rfl, HBW5.out.trans (hHeld.mono HBW5.out.size)⟩
            · refine take_at (i := 24) (v := ?_) 57 rfl rfl (by kernel_rfl) (by kernel_rfl) (by kernel_rfl) (fun _ _ _ h => h) (Or.inl ⟨by rfl, ?_⟩) hHeld ?_
              rotate_left
              · intro w hSw; go_simp <;> with_reducible rfl
              try simp only [Act.put, List.setIfInBounds_toArray, List.set_cons_zero, List.set_cons_succ]
              refine take_at (i := 25) (v := ?_) 58 rfl rfl (by kernel_rfl) (by kernel_rfl) (by kernel_rfl) (fun _ _ _ h => h) (Or.inl ⟨by rfl, ?_⟩) hHeld ?_
              rotate_left
              · intro w hSw; go_simp <;> with_reducible rfl
              try simp only [Act.put, List.setIfInBounds_toArray, List.set_cons_zero, List.set_cons_succ]
              refine take_at (i := 26) (v := ?_) 59 rfl rfl (by kernel_rfl) (by kernel_rfl) (by kernel_rfl) (fun _ _ _ h => h) (Or.inl ⟨by rfl, ?_⟩) hHeld ?_
              rotate_left
              · intro w hSw; go_simp <;> with_reducible rfl
              try simp only [Act.put, List.setIfInBounds_toArray, List.set_cons_zero, List.set_cons_succ]
              refine take_at (i := 27) (v := ?_) 60 rfl rfl (by kernel_rfl) (by kernel_rfl) (by kernel_rfl) (fun _ _ _ h => h) (Or.inl ⟨by rfl, ?_⟩) hHeld ?_
              rotate_left
              · intro w hSw
                have q0 := (HX5.out.below hSw).box.cell 0
                have q1 := (HX5.out.below hSw).box.cell 1
                simp only [List.getElem?_toArray, List.getElem?_cons_zero, List.getElem?_cons_succ] at q0 q1
                go_simp <;> with_reducible rfl
              try simp only [Act.put, List.setIfInBounds_toArray, List.set_cons_zero, List.set_cons_succ]
              refine take_at (i := 28) (v := ?_) 61 rfl rfl (by kernel_rfl) (by kernel_rfl) (by kernel_rfl) (fun _ _ _ h => h) (Or.inl ⟨by rfl, ?_⟩) hHeld ?_
              rotate_left
              · intro w hSw; go_simp <;> with_reducible rfl
              try simp only [Act.put, List.setIfInBounds_toArray, List.set_cons_zero, List.set_cons_succ]
              refine take_at (i := 29) (v := ?_) 62 rfl rfl (by kernel_rfl) (by kernel_rfl) (by kernel_rfl) (fun _ _ _ h => h) (Or.inl ⟨by rfl, ?_⟩) hHeld ?_
              rotate_left
              · intro w hSw; go_simp <;> with_reducible rfl
              try simp only [Act.put, List.setIfInBounds_toArray, List.set_cons_zero, List.set_cons_succ]
              refine take_at (i := 30) (v := ?_) 63 rfl rfl (by kernel_rfl) (by kernel_rfl) (by kernel_rfl) (fun _ _ _ h => h) (Or.inl ⟨by rfl, ?_⟩) hHeld ?_
              rotate_left
              · intro w hSw; go_simp <;> with_reducible rfl
              try simp only [Act.put, List.setIfInBounds_toArray, List.set_cons_zero, List.set_cons_succ]
              refine take_at (i := 31) (v := ?_) 64 rfl rfl (by kernel_rfl) (by kernel_rfl) (by kernel_rfl) (fun _ _ _ h => h) (Or.inl ⟨by rfl, ?_⟩) hHeld ?_
              rotate_left
              · intro w hSw; go_simp <;> with_reducible rfl
              try simp only [Act.put, List.setIfInBounds_toArray, List.set_cons_zero, List.set_cons_succ]
              refine take_at (i := 32) (v := ?_) 6 rfl rfl (by kernel_rfl) (by kernel_rfl) (by kernel_rfl) (fun _ _ _ h => h) (Or.inl ⟨by rfl, ?_⟩) hHeld ?_
              rotate_left
              · intro w hSw; go_simp <;> with_reducible rfl
              try simp only [Act.put, List.setIfInBounds_toArray, List.set_cons_zero, List.set_cons_succ]
              refine wpAnyH_done (by kernel_rfl) ?_ _
              go_wp2_with fail
              go_ret
              exact ⟨rfl, HBW5.out.trans (hHeld.mono HBW5.out.size)⟩
  · rw [show decide (n ≤ 4 ∧ m ≤ 4) = false from decide_eq_false hfew]
    go_wp2_with fail
    go_ret
    exact ⟨rfl, HBW2.out⟩
end Go.Proofs.Ytaomlhhlefpdeaa

namespace Go.Proofs.Ytaomlhhlefpdeaa
open Go.ChangeShapes Go.WideShapes Go.ChangeAt Go.RowKit Go.Deep Go.Joins

section
variable {H : Type} {enc : TypeId × Value → H} {w : World} {base : Nat} {held : Bool}

set_option maxRecDepth 100000 in
theorem steps_read {fuel : Nat} {v : Value} {x : DataW H × List MemPlace} (h : DataW.trod enc Try.prog w base (fun _ => true) held fuel 44 [v] = some x) :
    ∃ (pa : Option Addr) (l pc : Nat) (T : List StepT), v = .slice pa l pc ∧ l ≤ 9223372036854775807 ∧ Steps w pa l T := by
  rcases open_slice Try.underlying44 h with ⟨hcs, _⟩ | ⟨a, len, cap, m, n, D, Pl, hcs, hb, hl, hm, hmm, hx0, hx⟩
  · simp at hcs
    subst hcs
    exact ⟨none, 0, 0, [], rfl, by omega, rfl, fun k hk => absurd hk (by omega)⟩
  · simp at hcs
    subst hcs
    obtain ⟨b, o, s⟩ := a
    have hm' : m = cap := by simpa using hmm
    subst hm'
    have ce : Try.prog.cellsOf 51 = 3 := by kernel_rfl
    have each : ∀ i : Fin len, ∃ t : StepT, ∃ ka kc, s = none ∧ w.cell? ⟨b, o + i * 3, none⟩ = some (.int .i64 t.kind) ∧ w.cell? ⟨b, o + i * 3 + 1, none⟩ = some (.int .i64 t.group) ∧
        w.cell? ⟨b, o + i * 3 + 2, none⟩ = some (.slice ka t.kids.length kc) ∧ Ints w ka t.kids.length t.kids := by
      intro i
      obtain ⟨cs', h1, h2⟩ := hx i (by omega)
      rw [ce] at h1
      obtain ⟨_, hlen, hcell⟩ := World.cells?_some h1
      obtain ⟨xs, k, hk, hxy, _, hxl, hf⟩ := DataW.trod_struct Try.underlying51 h2
      match xs, hxl, cs', hlen with
      | [y0, y1, y2], _, [v0, v1, v2], _ =>
        have g0 := hf 0 _ rfl
        have g1 := hf 1 _ rfl
        have g2 := hf 2 _ rfl
        have c0 : Try.prog.cellsOf 3 = 1 := by kernel_rfl
        have c2 : Try.prog.cellsOf 22 = 1 := by kernel_rfl
        simp [c0] at g0
        simp [c0] at g1
        simp [c2] at g2
        have e0 := hcell 0 (by omega)
        have e1 := hcell 1 (by omega)
        have e2 := hcell 2 (by omega)
        have hs : s = none := by
          have hi := i.isLt
          obtain ⟨cs0, h01, _⟩ := hx 0 (by omega)
          rw [ce] at h01
          obtain ⟨_, hl0, hc0⟩ := World.cells?_some h01
          match cs0, hl0 with
          | [u0, u1, u2], _ =>
            have z := hc0 0 (by omega)
            rw [add_add] at z
            exact whole_of (v := u0) (by simpa using z)
        subst hs
        rw [add_add, add_whole] at e0 e1 e2
        obtain ⟨n0, q0, _⟩ := DataW.trod_int Try.underlying3 g0
        obtain ⟨n1, q1, _⟩ := DataW.trod_int Try.underlying3 g1
        obtain ⟨ka, kl, kc, ks, q2, _, _, hI⟩ := ints_read g2
        simp at q0 q1
        subst q0 q1 q2
        have hkl : ks.length = kl := hI.1
        subst hkl
        exact ⟨⟨n0, n1, ks⟩, ka, kc, rfl, by simpa using e0, by simpa [Nat.add_assoc] using e1, by simpa [Nat.add_assoc] using e2, hI⟩
    obtain ⟨f, hf⟩ := Classical.axiomOfChoice each
    unfold maxLen at hm
    refine ⟨some ⟨b, o, s⟩, len, m, (List.range len).map fun i => if hi : i < len then f ⟨i, hi⟩ else default, rfl, by omega, by simp, fun i hi => ?_⟩
    obtain ⟨ka, kc, hs, c0, c1, c2, hI⟩ := hf ⟨i, hi⟩
    have e : stepAt ((List.range len).map fun i => if hi : i < len then f ⟨i, hi⟩ else default) i = f ⟨i, hi⟩ := by simp [stepAt, List.getD, hi]
    subst hs
    rw [e]
    exact ⟨b, o, ka, kc, rfl, c0, c1, c2, hI⟩

set_option maxRecDepth 100000 in
/-- The argument of type Proof: its one field. -/
theorem proof_read {r : Reach} {b0 : Nat} {v : Value} {d : DataW H} {p : List MemPlace} (hv : Value.okWide Try.prog w r b0 46 v)
    (h : DataW.Trod enc Try.prog w base (fun _ => true) held 46 v d p) :
    ∃ (pa : Option Addr) (l pc : Nat) (T : List StepT), v = .agg #[.slice pa l pc] ∧ l ≤ 9223372036854775807 ∧ Steps w pa l T := by
  obtain ⟨cs, rfl, hsz⟩ := okWide_struct Try.underlying46 hv
  have hC : Try.prog.cellsOf 46 = 1 := by kernel_rfl
  rw [hC] at hsz
  obtain ⟨c0, rfl⟩ : ∃ c, cs = #[c] := by
    obtain ⟨l⟩ := cs
    match l, hsz with
    | [c], _ => exact ⟨c, rfl⟩
  obtain ⟨fuel, hf⟩ := h
  obtain ⟨xs, k, hk, hxy, _, hxl, hfl⟩ := DataW.trod_struct Try.underlying46 hf
  match xs, hxl with
  | [y0], _ =>
    have g0 := hfl 0 _ rfl
    have c2 : Try.prog.cellsOf 44 = 1 := by kernel_rfl
    simp [Value.cells, c2] at g0
    obtain ⟨pa, l, pc, T, rfl, hl, hT⟩ := steps_read g0
    exact ⟨pa, l, pc, T, rfl, hl, hT⟩
end
end Go.Proofs.Ytaomlhhlefpdeaa
