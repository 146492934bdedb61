/- fit.Legal, whatever the packing's length. -/
import Derived.Test.YthabgljdndbphaaGreatDoorQPKB42

set_option linter.unusedVariables false
set_option linter.unusedSimpArgs false
namespace Go.Proofs.YthabgljdndbphaaGreatDoor
open Go.RowKit
set_option maxRecDepth 10000 in
set_option maxHeartbeats 3200000 in
theorem legal_off (ra ga sa : Option Addr) (n c m d k sc : Nat) (single : Bool) (V0 : Int) (R : List Int) (G S : List (Int × Int)) (w : World)
  (hn : n ≤ 4000) (hm : m ≤ 4000) (hkm : k ≠ m) (hR : Ints w ra n R) (hG : Pairs w ga m G) (hS : Pairs w sa k S) :
  Calls Tryz.prog 16 #[.agg #[.slice ra n c, .slice ga m d, .bool single], .agg #[.slice sa k sc, .int .i64 V0]] w fun e w' => ∃ q, e = .returned (.bool q) ∧ Below w.heap.size w w' ∧ (q = true ↔ LegalP single R G S V0) := by
 have HR := Lib.hid hR; have HG := Lib.hid hG; have HS := Lib.hid hS
 have hb0 : Below w.heap.size w ((w.alloc (.cells #[.slice ra n c, .slice ga m d, .bool single] 25)).alloc (.cells #[.slice sa k sc, .int .i64 V0] 31)) := ((Below.refl _ _).alloc (Nat.le_refl _) _).alloc (by simp) _
 have HBX0 : Hid (Box ((w.alloc (.cells #[.slice ra n c, .slice ga m d, .bool single] 25)).alloc (.cells #[.slice sa k sc, .int .i64 V0] 31)) w.heap.size 25 #[.slice ra n c, .slice ga m d, .bool single] ∧
  Box ((w.alloc (.cells #[.slice ra n c, .slice ga m d, .bool single] 25)).alloc (.cells #[.slice sa k sc, .int .i64 V0] 31)) (w.heap.size + 1) 31 #[.slice sa k sc, .int .i64 V0]) := ⟨(Box.new rfl).alloc _, Box.new (by simp)⟩
 clear hR hG hS
 cases hv : validS R G
 ·
  have HV := Lib.hid hv
  clear hv
  go_enter Tryz.func16, Tryz.ntmps16
  go_wp2_with fail
  refine (valid_any ra ga n c m d single false R G _ hn hm (HR.out.below hb0) (HG.out.below hb0) HV.out).mono ?_
  rintro e w1 ⟨rfl, hb1⟩
  have hbw : Below w.heap.size w w1 := hb0.trans (hb1.mono hb0.size)
  clear hb0 hb1 HBX0
  go_wp2
  go_ret
  exact ⟨false, rfl, hbw, by unfold LegalP; rw [HV.out]; simp⟩
 ·
  have HV := Lib.hid hv
  have HVP := Lib.hid (validS_parts hv).2.2
  have HRR := Lib.hid (runsOk_sum R 4000 (by omega) (validS_parts hv).1).2.2
  have HLR := Lib.hid HR.out.1
  have HLG := Lib.hid HG.out.1
  have HLS := Lib.hid HS.out.1
  clear hv
  go_enter Tryz.func16, Tryz.ntmps16
  go_wp2_with fail
  refine (valid_any ra ga n c m d single true R G _ hn hm (HR.out.below hb0) (HG.out.below hb0) HV.out).mono ?_
  rintro e w1 ⟨rfl, hb1⟩
  have hbw : Below w.heap.size w w1 := hb0.trans (hb1.mono hb0.size)
  have HBX := Lib.hid ((⟨HBX0.out.1.below hb1, HBX0.out.2.below hb1⟩ : _ ∧ _))
  have hsz1 : w.heap.size + 2 ≤ w1.heap.size := by have := hb1.size; simpa using this
  clear hb0 hb1 HBX0
  have x0 := HBX.out.1.cell 0
  have x1 := HBX.out.1.cell 1
  have y0 := HBX.out.2.cell 0
  simp only [List.getElem?_toArray, List.getElem?_cons_zero, List.getElem?_cons_succ] at x0 x1 y0
  have t1 : ((k : Int) != (m : Int)) = true := by simp; omega
  have FIN : Hid (¬ LegalP single R G S V0) := by
    intro h; have := h.2.1; rw [HLS.out, HLG.out] at this; exact hkm this
  clear hkm
  go_wp2_with fail
  go_ret
  exact ⟨false, rfl, hbw, by have := FIN.out; simp [this]⟩
theorem legal_wide (ra ga sa : Option Addr) (n c m d k sc : Nat) (single : Bool) (V0 : Int) (R : List Int) (G S : List (Int × Int)) (w : World)
  (hn : n ≤ 4000) (hm : m ≤ 4000) (hR : Ints w ra n R) (hG : Pairs w ga m G) (hS : Pairs w sa k S) :
  Calls Tryz.prog 16 #[.agg #[.slice ra n c, .slice ga m d, .bool single], .agg #[.slice sa k sc, .int .i64 V0]] w fun e w' => ∃ q, e = .returned (.bool q) ∧ Below w.heap.size w w' ∧ (q = true ↔ LegalP single R G S V0) := by
 by_cases h : k = m
 ·
  subst h
  exact legal_any ra ga sa n c k d k sc single V0 R G S w hn hm hm hR hG hS
 ·
  exact legal_off ra ga sa n c m d k sc single V0 R G S w hn hm h hR hG hS
end Go.Proofs.YthabgljdndbphaaGreatDoor
