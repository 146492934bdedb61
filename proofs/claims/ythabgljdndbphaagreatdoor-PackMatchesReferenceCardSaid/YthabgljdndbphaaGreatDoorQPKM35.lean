/- fit.Legal: the walk. -/
import Derived.Test.YthabgljdndbphaaGreatDoorQPKM33
import Derived.Test.YthabgljdndbphaaGreatDoorQPKM34
import Derived.Deep.RegionHeld3

set_option linter.unusedVariables false
set_option linter.unusedSimpArgs false
namespace Go.Proofs.YthabgljdndbphaaGreatDoor
open Go.RowKit

theorem worth_any (s v : Int) (w : World) (hs : 1 ≤ s ∧ s ≤ 12) (hv : 0 ≤ v ∧ v ≤ 1000000) :
  Calls Tryz.prog 30 #[.agg #[.int .i64 s, .int .i64 v]] w fun e w' => e = .returned (.int .i64 (s * v)) ∧ Below w.heap.size w w' := by
 have h0 : 0 ≤ s * v := Int.mul_nonneg (by omega) (by omega)
 have h1 : s * v ≤ 12 * v := Int.mul_le_mul_of_nonneg_right hs.2 hv.1
 go_enter Tryz.func30, Tryz.ntmps30
 go_wp2_with fail
 go_ret
 exact ⟨rfl, (Below.refl _ _).alloc (Nat.le_refl _) _⟩

set_option maxRecDepth 10000 in
set_option maxHeartbeats 3200000 in
theorem legal_any (ra ga sa : Option Addr) (n c m d k sc : Nat) (single : Bool) (V0 : Int) (R : List Int) (G S : List (Int × Int)) (w : World)
  (hn : n ≤ 4000) (hm : m ≤ 4000) (hk : k ≤ 4000) (hR : Ints w ra n R) (hG : Pairs w ga m G) (hS : Pairs w sa k S) :
  Calls Tryz.prog 16 #[.agg #[.slice ra n c, .slice ga m d, .bool single], .agg #[.slice sa k sc, .int .i64 V0]] w fun e w' => ∃ q, e = .returned (.bool q) ∧ Below w.heap.size w w' ∧ (q = true ↔ LegalP single R G S V0) := by
 have HR := Lib.hid hR; have HG := Lib.hid hG; have HS := Lib.hid hS
 have hb0 : Below w.heap.size w ((w.alloc (.cells #[.slice ra n c, .slice ga m d, .bool single] 25)).alloc (.cells #[.slice sa k sc, .int .i64 V0] 31)) := ((Below.refl _ _).alloc (Nat.le_refl _) _).alloc (by simp) _
 have HBX0 : Hid (Box ((w.alloc (.cells #[.slice ra n c, .slice ga m d, .bool single] 25)).alloc (.cells #[.slice sa k sc, .int .i64 V0] 31)) w.heap.size 25 #[.slice ra n c, .slice ga m d, .bool single] ∧
  Box ((w.alloc (.cells #[.slice ra n c, .slice ga m d, .bool single] 25)).alloc (.cells #[.slice sa k sc, .int .i64 V0] 31)) (w.heap.size + 1) 31 #[.slice sa k sc, .int .i64 V0]) := ⟨(Box.new rfl).alloc _, Box.new (by simp)⟩
 clear hR hG hS
 cases hv : validS R G
 ·
  have HV := Lib.hid hv
  clear hv
  go_enter Tryz.func16, Tryz.ntmps16
  go_wp2_with fail
  refine (valid_any ra ga n c m d single false R G _ hn hm (HR.out.below hb0) (HG.out.below hb0) HV.out).mono ?_
  rintro e w1 ⟨rfl, hb1⟩
  have hbw : Below w.heap.size w w1 := hb0.trans (hb1.mono hb0.size)
  clear hb0 hb1 HBX0
  go_wp2
  go_ret
  exact ⟨false, rfl, hbw, by unfold LegalP; rw [HV.out]; simp⟩
 ·
  have HV := Lib.hid hv
  have HVP := Lib.hid (validS_parts hv).2.2
  have HRR := Lib.hid (runsOk_sum R 4000 (by omega) (validS_parts hv).1).2.2
  have HLR := Lib.hid HR.out.1
  have HLG := Lib.hid HG.out.1
  have HLS := Lib.hid HS.out.1
  clear hv
  go_enter Tryz.func16, Tryz.ntmps16
  go_wp2_with fail
  refine (valid_any ra ga n c m d single true R G _ hn hm (HR.out.below hb0) (HG.out.below hb0) HV.out).mono ?_
  rintro e w1 ⟨rfl, hb1⟩
  have hbw : Below w.heap.size w w1 := hb0.trans (hb1.mono hb0.size)
  have HBX := Lib.hid ((⟨HBX0.out.1.below hb1, HBX0.out.2.below hb1⟩ : _ ∧ _))
  have hsz1 : w.heap.size + 2 ≤ w1.heap.size := by have := hb1.size; simpa using this
  clear hb0 hb1 HBX0
  have x0 := HBX.out.1.cell 0
  have x1 := HBX.out.1.cell 1
  have y0 := HBX.out.2.cell 0
  simp only [List.getElem?_toArray, List.getElem?_cons_zero, List.getElem?_cons_succ] at x0 x1 y0
  by_cases hkm : k = m
  ·
   subst hkm
   have t1 : ((k : Int) != (k : Int)) = false := by simp
   obtain ⟨arr, hs, hz, hmk⟩ := make_rows n hn
   have HRW : Hid (Rows2 (w1.alloc (.cells arr 29)) (w1.heap.size + 1) w1.heap.size (List.replicate R.length [])) := Rows2.made rfl (by rw [HLR.out]; exact hz)
   have HBX2 := Lib.hid ((⟨HBX.out.1.alloc (.cells arr 29), HBX.out.2.alloc (.cells arr 29)⟩ : _ ∧ _))
   have HBW2 := Lib.hid (hbw.alloc hbw.size (.cells arr 29))
   have hz2 : w1.heap.size < (w1.alloc (.cells arr 29)).heap.size := by simp
   clear hs hz hbw HBX
   go_upto_region 4 with fail
   generalize (w1.alloc (.cells arr 29)) = w2 at *
   generalize w1.heap.size = g at *
   clear x0 x1 y0 hmk
   have y0 := HBX2.out.2.cell 0
   simp only [List.getElem?_toArray, List.getElem?_cons_zero] at y0
   go_wp2_with fail
   clear y0
   go_loopw [6, 7, 8, 9, 34, 44, 53] (fun v6 _ _ _ v34 _ _ wr => ∃ (i : Nat) (V : Int) (Q : List (List (Int × Int))), v34 = .int .i64 i ∧ i ≤ k ∧ v6 = .int .i64 V ∧ 0 ≤ V ∧ V ≤ 12000000 * i ∧ Hid (placed R G S i = some (Q, V)) ∧ Hid (Rows2 wr (g + 1) g Q) ∧
     Hid (Below w.heap.size w wr) ∧ Hid (Box wr w.heap.size 25 #[.slice ra n c, .slice ga k d, .bool single] ∧ Box wr (w.heap.size + 1) 31 #[.slice sa k sc, .int .i64 V0]))
    (fun _ _ _ _ v34 _ _ _ => k - (intOf v34).toNat)
   case atStart => exact ⟨0, 0, _, rfl, Nat.zero_le _, rfl, by omega, by omega, rfl, HRW, HBW2, HBX2⟩
   case round =>
    clear HRW HBW2 HBX2
    obtain ⟨i, V, Q, rfl, hi, rfl, hV0, hV1, HPL, HRW, HBW, HBX⟩ := hrel
    have hwl : w.heap.size + 1 < wr.heap.size := lt_of_block HBX.out.2
    have hgw : g < wr.heap.size := by
     obtain ⟨_, vs, h1, _⟩ := HRW.out
     exact lt_of_block h1
    by_cases hlt : i < k
    ·
     obtain ⟨sb, so, rfl, c1, c2⟩ := (HS.out.below HBW.out).2 i hlt
     obtain ⟨gb, go, rfl, d1, d2⟩ := (HG.out.below HBW.out).2 i hlt
     have hgi := HVP.out i (by rw [HLG.out]; exact hlt)
     obtain ⟨t, ht⟩ : ∃ x, gs S i = x := ⟨_, rfl⟩
     obtain ⟨f, hf⟩ : ∃ x, gv S i = x := ⟨_, rfl⟩
     obtain ⟨s, hs⟩ : ∃ x, gs G i = x := ⟨_, rfl⟩
     obtain ⟨v, hv2⟩ : ∃ x, gv G i = x := ⟨_, rfl⟩
     rw [ht] at c1; rw [hf] at c2; rw [hs] at d1 hgi; rw [hv2] at d2 hgi
     have HSTEP : Hid (placed R G S (i + 1) = if t = -1 ∧ f = 0 then some (Q, V) else if badSpot R s t f then none else some (Q.set t.toNat (qx Q t.toNat ++ [(s, f)]), V + s * v)) := by
      show _ = _
      rw [placed, HPL.out, ht, hf, hs, hv2]; rfl
     clear ht hf hs hv2
     have x1 := HBX.out.1.cell 1
     have hwl0 : w.heap.size < wr.heap.size := by omega
     have hgl : gb < wr.heap.size := cell_lt d1
     simp only [List.getElem?_toArray, List.getElem?_cons_zero, List.getElem?_cons_succ] at x1
     have HBX3 : Hid ((Box ((wr.alloc (.cells #[.int .i64 t, .int .i64 f] 46)).alloc (.cells #[.int .i64 s, .int .i64 v] 49)) w.heap.size 25 #[.slice ra n c, .slice (some ⟨gb, go, none⟩) k d, .bool single] ∧
       Box ((wr.alloc (.cells #[.int .i64 t, .int .i64 f] 46)).alloc (.cells #[.int .i64 s, .int .i64 v] 49)) (w.heap.size + 1) 31 #[.slice (some ⟨sb, so, none⟩) k sc, .int .i64 V0]) ∧
       Box ((wr.alloc (.cells #[.int .i64 t, .int .i64 f] 46)).alloc (.cells #[.int .i64 s, .int .i64 v] 49)) wr.heap.size 46 #[.int .i64 t, .int .i64 f] ∧
       Box ((wr.alloc (.cells #[.int .i64 t, .int .i64 f] 46)).alloc (.cells #[.int .i64 s, .int .i64 v] 49)) (wr.heap.size + 1) 49 #[.int .i64 s, .int .i64 v]) :=
      ⟨⟨(HBX.out.1.alloc _).alloc _, (HBX.out.2.alloc _).alloc _⟩, (Box.new rfl).alloc _, Box.new (by simp)⟩
     have hbr : Below wr.heap.size wr ((wr.alloc (.cells #[.int .i64 t, .int .i64 f] 46)).alloc (.cells #[.int .i64 s, .int .i64 v] 49)) := ((Below.refl _ _).alloc (Nat.le_refl _) _).alloc (by simp) _
     have HRW3 := Lib.hid (HRW.out.below hbr)
     have HBW3 := Lib.hid (HBW.out.trans (hbr.mono (by omega)))
     have HRB : Hid (∀ r vr, r < Q.length → ((wr.alloc (.cells #[.int .i64 t, .int .i64 f] 46)).alloc (.cells #[.int .i64 s, .int .i64 v] 49)).cell? ⟨g, r, none⟩ = some vr → ∀ b, vr.ownBlock = some b → g + 1 ≤ b ∧ b < wr.heap.size) := by
      intro r vr hr hc b hb
      obtain ⟨u, hu, ho⟩ := HRW.out.get r hr
      have := Below.cell_of hbr hu
      rw [hc] at this
      obtain rfl : vr = u := by simpa using this
      exact ho.lt b hb
     have hs3 : wr.heap.size + 1 < ((wr.alloc (.cells #[.int .i64 t, .int .i64 f] 46)).alloc (.cells #[.int .i64 s, .int .i64 v] 49)).heap.size := by simp
     clear HRW HBW HBX hbr
     go_upto_region 9 with fail
     generalize ((wr.alloc (.cells #[.int .i64 t, .int .i64 f] 46)).alloc (.cells #[.int .i64 s, .int .i64 v] 49)) = w3 at *
     generalize hbF : wr.heap.size + 1 = bg at *
     generalize wr.heap.size = bs at *
     clear c1 c2 d1 d2 x1
     have s0 := HBX3.out.2.1.cell 0
     have s1 := HBX3.out.2.1.cell 1
     have g0 := HBX3.out.2.2.cell 0
     have g1 := HBX3.out.2.2.cell 1
     have x0 := HBX3.out.1.1.cell 0
     simp only [List.getElem?_toArray, List.getElem?_cons_zero, List.getElem?_cons_succ] at s0 s1 g0 g1 x0
     by_cases hsk : t = -1 ∧ f = 0
     ·
      rw [if_pos hsk] at HSTEP
      obtain ⟨rfl, rfl⟩ := hsk
      clear g0 g1 x0
      go_wp2_with fail
      go_roundw
      case rel => exact ⟨i + 1, V, Q, by go_num, by omega, rfl, hV0, by omega, HSTEP, HRW3, HBW3, HBX3.out.1⟩
      case measure => simp [intOf]; omega
     ·
      rw [if_neg hsk] at HSTEP
      by_cases hbad : badSpot R s t f
      ·
       rw [if_pos hbad] at HSTEP
       have FIN : Hid (¬ LegalP single R G S V0) := by
        intro h
        obtain ⟨q, hq, _⟩ := h.2.2
        rw [placed_none R G S (i + 1) HSTEP.out _ (by rw [HLS.out]; omega)] at hq
        simp at hq
       unfold badSpot at hbad
       rw [HLR.out] at hbad
       have hf1 : t = -1 → ¬ f = 0 := fun a b => hsk ⟨a, b⟩
       clear hsk HSTEP
       by_cases ht0 : t < 0
       ·
        by_cases ht1 : t = -1
        ·
         subst ht1
         have e1 : (f == 0) = false := by have := hf1 rfl; simp; omega
         clear hbad hf1
         go_wp2_with fail
         go_quiet (fail)
         go_wp2
         go_ret
         exact ⟨false, rfl, below_drewN HBW3.out _, by have := FIN.out; simp [this]⟩
        ·
         have e1 : (t == -1) = false := by simp; omega
         have e2 : decide (t < 0) = true := by simp; omega
         clear hbad hf1
         go_wp2_with fail
         go_quiet (fail)
         go_wp2
         go_ret
         exact ⟨false, rfl, below_drewN HBW3.out _, by have := FIN.out; simp [this]⟩
       ·
        have e1 : (t == -1) = false := by simp; omega
        have e2 : decide (t < 0) = false := by simp; omega
        clear hf1
        by_cases htn : (n : Int) ≤ t
        ·
         have e3 : decide ((n : Int) ≤ t) = true := by simp; omega
         clear hbad
         go_wp2_with fail
         go_quiet (fail)
         go_wp2
         go_ret
         exact ⟨false, rfl, below_drewN HBW3.out _, by have := FIN.out; simp [this]⟩
        ·
         have e3 : decide ((n : Int) ≤ t) = false := by simp; omega
         by_cases hf0 : f < 0
         ·
          have e4 : decide (f < 0) = true := by simp; omega
          clear hbad htn ht0
          go_wp2_with fail
          go_quiet (fail)
          go_wp2
          go_ret
          exact ⟨false, rfl, below_drewN HBW3.out _, by have := FIN.out; simp [this]⟩
         ·
          have e4 : decide (f < 0) = false := by simp; omega
          obtain ⟨tn, rfl⟩ : ∃ tn : Nat, t = tn := ⟨t.toNat, by omega⟩
          have htn2 : tn < n := by omega
          have hnt : ¬ n ≤ tn := by omega
          rw [Int.toNat_natCast] at hbad
          have hrr := HRR.out tn (by rw [HLR.out]; exact htn2)
          obtain ⟨rb, ro, rfl, r1⟩ := (HR.out.below HBW3.out).2 tn htn2
          obtain ⟨z, hz⟩ : ∃ x, ix R tn = x := ⟨_, rfl⟩
          rw [hz] at r1 hbad hrr
          have e5 : decide (z - s < f) = true := by simp; omega
          clear hz hbad htn ht0 hf0
          go_wp2_with fail
          go_quiet (fail)
          go_wp2
          go_ret
          exact ⟨false, rfl, below_drewN HBW3.out _, by have := FIN.out; simp [this]⟩
      ·
       rw [if_neg hbad] at HSTEP
       unfold badSpot at hbad
       rw [HLR.out] at hbad
       clear hsk
       obtain ⟨tn, rfl⟩ : ∃ tn : Nat, t = tn := ⟨t.toNat, by omega⟩
       rw [Int.toNat_natCast] at hbad HSTEP
       have htn2 : tn < n := by omega
       have hnt : ¬ n ≤ tn := by omega
       have hrr := HRR.out tn (by rw [HLR.out]; exact htn2)
       obtain ⟨rb, ro, rfl, r1⟩ := (HR.out.below HBW3.out).2 tn htn2
       obtain ⟨z, hz⟩ : ∃ x, ix R tn = x := ⟨_, rfl⟩
       rw [hz] at r1 hbad hrr
       have e1 : ((tn : Int) == -1) = false := by simp
       have e2 : decide ((tn : Int) < 0) = false := by simp
       have e4 : decide (f < 0) = false := by simp; omega
       have e5 : decide (z - s < f) = false := by simp; omega
       have hff : 0 ≤ f ∧ f + s ≤ z := by omega
       clear hz hbad
       go_wp2_with fail
       go_quiet (fail)
       go_upto_region 12 with fail
       generalize hw4 : World.drewN w3 _ = w4
       have hb4 : Below w3.heap.size w3 w4 := by rw [← hw4]; exact below_drewN (Below.refl _ _) _
       have HBX4 := Lib.hid ((⟨⟨HBX3.out.1.1.below hb4, HBX3.out.1.2.below hb4⟩, HBX3.out.2.1.below hb4, HBX3.out.2.2.below hb4⟩ : (_ ∧ _) ∧ _ ∧ _))
       have HRW4 := Lib.hid (HRW3.out.below hb4)
       have hsz3 : w.heap.size ≤ w3.heap.size := HBW3.out.size
       have HBW4 := Lib.hid (HBW3.out.trans (hb4.mono hsz3))
       have HRB4 : Hid (∀ r vr, r < Q.length → w4.cell? ⟨g, r, none⟩ = some vr → ∀ b, vr.ownBlock = some b → g + 1 ≤ b ∧ b < bs) := by
        intro r vr hr hc b hb
        obtain ⟨u, hu, _⟩ := HRW3.out.get r hr
        have := Below.cell_of hb4 hu
        rw [hc] at this
        obtain rfl : vr = u := by simpa using this
        exact HRB.out r vr hr hu b hb
       have hs4 : w3.heap.size ≤ w4.heap.size := hb4.size
       have HQL : Hid (Q.length = n) := by rw [← HLR.out]; exact placed_length R G S i _ HPL.out
       have HQN : Hid ((qx Q tn).length ≤ i) := placed_len R G S i _ HPL.out tn
       have hq : tn < Q.length := by rw [HQL.out]; exact htn2
       obtain ⟨vr, cr, own⟩ := HRW4.out.get tn hq
       have OWN := Lib.hid own
       have hvlt := Lib.hid (HRB4.out tn vr hq cr)
       have HQQ := Lib.hid hq
       clear hw4 hb4 HRB HRB4 HBX3 HRW3 HBW3 s0 s1 g0 g1 x0 r1 own hq
       have s0 := HBX4.out.2.1.cell 0
       have s1 := HBX4.out.2.1.cell 1
       have g0 := HBX4.out.2.2.cell 0
       have fr := HRW4.out.free tn
       have gg1 : g < bs := by omega
       simp only [List.getElem?_toArray, List.getElem?_cons_zero, List.getElem?_cons_succ] at s0 s1 g0
       obtain ⟨i0, hi0, hz0, hz1, hz2⟩ := spotInfo
       have hbn : (∀ b, vr.ownBlock = some b → b ≠ bs) ∧ (∀ b, vr.ownBlock = some b → b ≠ bg) ∧ (∀ b, vr.ownBlock = some b → b ≠ g) := ⟨fun b e => by have := hvlt.out b e; omega, fun b e => by have := hvlt.out b e; omega, fun b e => by have := hvlt.out b e; omega⟩
       have hlb : bs < w4.heap.size ∧ bg < w4.heap.size ∧ g < w4.heap.size := ⟨by omega, by omega, by omega⟩
       have HLB := Lib.hid hlb
       clear hlb
       have HBN := Lib.hid hbn
       clear hbn
       have hl4 : (qx Q tn).length + 1 ≤ maxLen := by have := HQN.out; unfold maxLen; omega
       have hl5 : ((qx Q tn).length + 1) * 16 ≤ 140737488355328 := by have := HQN.out; omega
       have hg4 : g + 1 ≤ w4.heap.size + 1 := by omega
       have hgb : g ≠ bs ∧ bs ≠ g ∧ g ≠ bg ∧ bg ≠ g := by omega
       obtain ⟨hgb1, hgb2, hgb3, hgb4⟩ := hgb
       generalize hNL : (qx Q tn).length = NL at *
       have HNL := Lib.hid hNL
       clear hNL
       go_cut [84] (fun _ wx => Hid (Rows2 wx (g + 1) g (Q.set tn (qx Q tn ++ [(s, f)]))) ∧ Hid (Below g w4 wx) ∧ Hid (∀ k, bs ≤ k → g < k → k < w4.heap.size → wx.heap[k]? = w4.heap[k]?))
       case first =>
        refine wp_region_held_drew (S := fun w' => w'.cell? ⟨bs, 0, none⟩ = some (.int .i64 tn) ∧ w'.cell? ⟨bs, 1, none⟩ = some (.int .i64 f) ∧ w'.cell? ⟨bg, 0, none⟩ = some (.int .i64 s)) (by kernel_rfl) ⟨s0, s1, g0⟩ (fun hHeld => ?_)
        refine wpAnyH_take (i := 0) (v := ?_) rfl (by kernel_rfl) (by kernel_rfl) (by kernel_rfl) (fun _ _ _ h => h) (Or.inl ⟨by rfl, ?_⟩) (by assumption) ?_
        rotate_left
        ·
         intro w hSw; go_simp <;> with_reducible rfl
        try simp only [Act.put, List.setIfInBounds_toArray]
        refine wpAnyH_take (i := 1) (v := ?_) rfl (by kernel_rfl) (by kernel_rfl) (by kernel_rfl) (fun _ _ _ h => h) (Or.inl ⟨by rfl, ?_⟩) (by assumption) ?_
        rotate_left
        ·
         intro w hSw; go_simp <;> with_reducible rfl
        try simp only [Act.put]
        refine wpAnyH_take (i := 2) (v := ?_) rfl (by kernel_rfl) (by kernel_rfl) (by kernel_rfl) (fun _ _ _ h => h) (Or.inl ⟨by rfl, ?_⟩) (by assumption) ?_
        rotate_left
        ·
         intro w hSw; go_simp <;> with_reducible rfl
        try simp only [Act.put]
        refine wpAnyH_take (i := 3) (v := ?_) rfl (by kernel_rfl) (by kernel_rfl) (by kernel_rfl) (fun _ _ _ h => h) (Or.inl ⟨by rfl, ?_⟩) (by assumption) ?_
        rotate_left
        ·
         intro w hSw; go_simp <;> with_reducible rfl
        try simp only [Act.put]
        refine wpAnyH_take (i := 4) (v := ?_) rfl (by kernel_rfl) (by kernel_rfl) (by kernel_rfl) (fun _ _ _ h => h) (Or.inl ⟨by rfl, ?_⟩) (by assumption) ?_
        rotate_left
        ·
         intro w hSw; go_simp <;> with_reducible rfl
        try simp only [Act.put]
        refine wpAnyH_take (i := 5) (v := ?_) rfl (by kernel_rfl) (by kernel_rfl) (by kernel_rfl) (fun _ _ _ h => h) (Or.inl ⟨by rfl, ?_⟩) (by assumption) ?_
        rotate_left
        ·
         intro w hSw; go_simp <;> with_reducible rfl
        try simp only [Act.put]
        refine wpAnyH_take (i := 6) (v := ?_) rfl (by kernel_rfl) (by kernel_rfl) (by kernel_rfl) (fun _ _ _ h => h) (Or.inl ⟨by rfl, ?_⟩) (by assumption) ?_
        rotate_left
        ·
         intro w hSw; go_simp <;> with_reducible rfl
        try simp only [Act.put]
        refine wpAnyH_take (i := 8) (v := ?_) rfl (by kernel_rfl) (by kernel_rfl) (by kernel_rfl) (fun _ _ _ h => h) (Or.inl ⟨by rfl, ?_⟩) (by assumption) ?_
        rotate_left
        ·
         intro w hSw; go_simp <;> with_reducible rfl
        try simp only [Act.put]
        refine wpAnyH_take (i := 9) (v := ?_) rfl (by kernel_rfl) (by kernel_rfl) (by kernel_rfl) (fun _ _ _ h => h) (Or.inl ⟨by rfl, ?_⟩) (by assumption) ?_
        rotate_left
        ·
         intro w hSw; go_simp <;> with_reducible rfl
        try simp only [Act.put]
        refine wpAnyH_take (i := 10) (v := ?_) rfl (by kernel_rfl) (by kernel_rfl) (by kernel_rfl) (fun _ _ _ h => h) (Or.inl ⟨by rfl, ?_⟩) (by assumption) ?_
        rotate_left
        ·
         intro w hSw; go_simp <;> with_reducible rfl
        try simp only [Act.put]
        refine wpAnyH_take (i := 11) (v := ?_) rfl (by kernel_rfl) (by kernel_rfl) (by kernel_rfl) (fun _ _ _ h => h) (Or.inl ⟨by rfl, ?_⟩) (by assumption) ?_
        rotate_left
        ·
         intro w hSw; go_simp <;> with_reducible rfl
        try simp only [Act.put]
        refine wpAnyH_take (i := 12) (v := ?_) rfl (by kernel_rfl) (by kernel_rfl) (by kernel_rfl) (fun _ _ _ h => h) (Or.inl ⟨by rfl, ?_⟩) (by assumption) ?_
        rotate_left
        ·
         intro w hSw; go_simp <;> with_reducible rfl
        try simp only [Act.put]
        refine wpAnyH_ready (rs := [7, 13]) (by kernel_rfl) (by simp) ?_
        refine AllReadyH.cons rfl (fun K hK => ?_) (AllReadyH.cons rfl (fun K hK => ?_) AllReadyH.nil)
        ·
         go_simp
         refine hK.out _ _ ⟨s0, s1, g0⟩ (fun hHeld => ?_)
         clear hK K
         try simp only [Act.put, List.setIfInBounds_toArray, List.set_cons_zero, List.set_cons_succ]
         refine wpAnyH_ready (rs := [13]) (by kernel_rfl) (by simp) ?_
         refine AllReadyH.cons rfl (fun K hK => ?_) AllReadyH.nil
         go_simp
         refine hK.out _ _ ⟨Below.cell_of ((Below.refl _ _).alloc (Nat.le_refl _) _).drew s0, Below.cell_of ((Below.refl _ _).alloc (Nat.le_refl _) _).drew s1, Below.cell_of ((Below.refl _ _).alloc (Nat.le_refl _) _).drew g0⟩ (fun hHeld => ?_)
         clear hK K
         try simp only [Act.put, List.setIfInBounds_toArray, List.set_cons_zero, List.set_cons_succ]
         refine wpAnyH_ready (rs := [14]) (by kernel_rfl) (by simp) ?_
         refine AllReadyH.cons rfl (fun K hK => ?_) AllReadyH.nil
         refine step_append_lies _ rfl _ _ 29 rfl (g + 1) 46 i0 (.agg #[.int .i64 0, .int .i64 0]) 2 16 Tryz.underlying29 hi0 hz0 hz1 hz2 rfl (by decide) vr NL (pcells (qx Q tn)) (by simp [Act.eval]) (World.ownsRow.alloc (w := w4.drew) OWN.out _) ⟨w4.heap.size, 0, none⟩ 1 1 [.int .i64 s, .int .i64 f] (by simp [Act.eval]) rfl (World.news_of_block (cs := #[.int .i64 s, .int .i64 f]) (heap_alloc_new w4.drew _)) (by intro u hu; simp at hu; rcases hu with rfl | rfl <;> rfl) (by decide) hl4 hl5 (by simpa using hg4) (w4.heap.size + 1) (by simp) ?_
         intro g' cap' w5 hown hgrow hat hlt5
         have y0 : w5.cell? ⟨bs, 0, none⟩ = _ := (World.cell?_of_block (push_far hgrow ⟨bs, 0, none⟩ HLB.out.1 HBN.out.1)).trans s0
         have y1 : w5.cell? ⟨bs, 1, none⟩ = _ := (World.cell?_of_block (push_far hgrow ⟨bs, 1, none⟩ HLB.out.1 HBN.out.1)).trans s1
         have y2 : w5.cell? ⟨bg, 0, none⟩ = _ := (World.cell?_of_block (push_far hgrow ⟨bg, 0, none⟩ HLB.out.2.1 HBN.out.2.1)).trans g0
         have y3 : w5.cell? ⟨g, tn, none⟩ = some vr := (World.cell?_of_block (push_far hgrow ⟨g, tn, none⟩ HLB.out.2.2 HBN.out.2.2)).trans cr
         have yf : w5.frozen? ⟨g, tn, none⟩ = false := (World.frozen?_of_block (push_far hgrow ⟨g, tn, none⟩ HLB.out.2.2 HBN.out.2.2)).trans fr
         have FIN := Lib.hid (push_facts HRW4.out HQQ.out cr hvlt.out (by rw [HNL.out]; exact hown) hgrow hat)
         rw [HNL.out] at FIN
         clear hown hgrow hat
         refine hK.out _ _ ⟨y0, y1, y2⟩ (fun hHeld => ?_)
         clear hK K
         try simp only [Act.put, List.setIfInBounds_toArray]
         refine wpAnyH_take (i := 15) (v := ?_) rfl (by kernel_rfl) (by kernel_rfl) (by kernel_rfl) (fun _ _ _ h => h) (Or.inl ⟨by rfl, ?_⟩) (by assumption) ?_
         rotate_left
         ·
          intro w hSw; go_simp <;> with_reducible rfl
         try simp only [Act.put]
         refine wpAnyH_ready (rs := [16]) (by kernel_rfl) (by simp) ?_
         refine AllReadyH.cons rfl (fun K hK => ?_) AllReadyH.nil
         go_simp
         refine hK.out _ _ (by simp [y0, y1, y2, World.cell?_setCell_far, hgb1, hgb3]) (fun hHeld => ?_)
         clear hK K
         try simp only [Act.put, List.setIfInBounds_toArray, List.set_cons_zero, List.set_cons_succ]
         refine wpAnyH_done (by kernel_rfl) ?_ _
         go_wp2_with fail
         go_meet
         case rel => exact ⟨FIN.out.1, FIN.out.2.1, FIN.out.2.2⟩
        ·
         go_simp
         refine hK.out _ _ ⟨Below.cell_of ((Below.refl _ _).alloc (Nat.le_refl _) _).drew s0, Below.cell_of ((Below.refl _ _).alloc (Nat.le_refl _) _).drew s1, Below.cell_of ((Below.refl _ _).alloc (Nat.le_refl _) _).drew g0⟩ (fun hHeld => ?_)
         clear hK K
         try simp only [Act.put, List.setIfInBounds_toArray, List.set_cons_zero, List.set_cons_succ]
         refine wpAnyH_ready (rs := [7]) (by kernel_rfl) (by simp) ?_
         refine AllReadyH.cons rfl (fun K hK => ?_) AllReadyH.nil
         have cra : (w4.alloc (.cells #[.int .i64 s, .int .i64 f] 46)).cell? ⟨g, tn, none⟩ = some vr := Below.cell_of ((Below.refl _ _).alloc (Nat.le_refl _) _) cr
         go_simp
         refine hK.out _ _ hHeld (fun hHeld => ?_)
         clear hK K
         try simp only [Act.put, List.setIfInBounds_toArray, List.set_cons_zero, List.set_cons_succ]
         refine wpAnyH_ready (rs := [14]) (by kernel_rfl) (by simp) ?_
         refine AllReadyH.cons rfl (fun K hK => ?_) AllReadyH.nil
         refine step_append_lies _ rfl _ _ 29 rfl (g + 1) 46 i0 (.agg #[.int .i64 0, .int .i64 0]) 2 16 Tryz.underlying29 hi0 hz0 hz1 hz2 rfl (by decide) vr NL (pcells (qx Q tn)) (by simp [Act.eval]) (World.ownsRow.alloc (w := w4.drew) OWN.out _) ⟨w4.heap.size, 0, none⟩ 1 1 [.int .i64 s, .int .i64 f] (by simp [Act.eval]) rfl (World.news_of_block (cs := #[.int .i64 s, .int .i64 f]) (heap_alloc_new w4.drew _)) (by intro u hu; simp at hu; rcases hu with rfl | rfl <;> rfl) (by decide) hl4 hl5 (by simpa using hg4) (w4.heap.size + 1) (by simp) ?_
         intro g' cap' w5 hown hgrow hat hlt5
         have y0 : w5.cell? ⟨bs, 0, none⟩ = _ := (World.cell?_of_block (push_far hgrow ⟨bs, 0, none⟩ HLB.out.1 HBN.out.1)).trans s0
         have y1 : w5.cell? ⟨bs, 1, none⟩ = _ := (World.cell?_of_block (push_far hgrow ⟨bs, 1, none⟩ HLB.out.1 HBN.out.1)).trans s1
         have y2 : w5.cell? ⟨bg, 0, none⟩ = _ := (World.cell?_of_block (push_far hgrow ⟨bg, 0, none⟩ HLB.out.2.1 HBN.out.2.1)).trans g0
         have y3 : w5.cell? ⟨g, tn, none⟩ = some vr := (World.cell?_of_block (push_far hgrow ⟨g, tn, none⟩ HLB.out.2.2 HBN.out.2.2)).trans cr
         have yf : w5.frozen? ⟨g, tn, none⟩ = false := (World.frozen?_of_block (push_far hgrow ⟨g, tn, none⟩ HLB.out.2.2 HBN.out.2.2)).trans fr
         have FIN := Lib.hid (push_facts HRW4.out HQQ.out cr hvlt.out (by rw [HNL.out]; exact hown) hgrow hat)
         rw [HNL.out] at FIN
         clear hown hgrow hat
         refine hK.out _ _ ⟨y0, y1, y2⟩ (fun hHeld => ?_)
         clear hK K
         try simp only [Act.put, List.setIfInBounds_toArray]
         refine wpAnyH_take (i := 15) (v := ?_) rfl (by kernel_rfl) (by kernel_rfl) (by kernel_rfl) (fun _ _ _ h => h) (Or.inl ⟨by rfl, ?_⟩) (by assumption) ?_
         rotate_left
         ·
          intro w hSw; go_simp <;> with_reducible rfl
         try simp only [Act.put]
         refine wpAnyH_ready (rs := [16]) (by kernel_rfl) (by simp) ?_
         refine AllReadyH.cons rfl (fun K hK => ?_) AllReadyH.nil
         go_simp
         refine hK.out _ _ (by simp [y0, y1, y2, World.cell?_setCell_far, hgb1, hgb3]) (fun hHeld => ?_)
         clear hK K
         try simp only [Act.put, List.setIfInBounds_toArray, List.set_cons_zero, List.set_cons_succ]
         refine wpAnyH_done (by kernel_rfl) ?_ _
         go_wp2_with fail
         go_meet
         case rel => exact ⟨FIN.out.1, FIN.out.2.1, FIN.out.2.2⟩
       case rest =>
        obtain ⟨HRW6, HB6, HK6⟩ := hcut
        have hgb0 : w.heap.size < g ∧ w.heap.size + 1 < g := by omega
        have hbg4 : bs < w4.heap.size ∧ bg < w4.heap.size ∧ g < bg ∧ bs ≤ bg := by omega
        have HBW6 := Lib.hid (HBW4.out.trans (HB6.out.mono (by omega)))
        have HBX6 := Lib.hid ((⟨HBX4.out.1.1.of_heap (HB6.out.block _ hgb0.1), HBX4.out.1.2.of_heap (HB6.out.block _ hgb0.2)⟩ : _ ∧ _))
        have HBG6 := Lib.hid (HBX4.out.2.2.of_heap (HK6.out bg hbg4.2.2.2 hbg4.2.2.1 hbg4.2.1))
        clear s0 s1 g0 fr cr HRW4 OWN hvlt HBX4 HBW4 HB6 HK6 HBN HLB hi0 hz0 hz1 hz2
        obtain ⟨p, hp⟩ : ∃ p, s * v = p := ⟨_, rfl⟩
        have hp0 : 0 ≤ p := by rw [← hp]; exact Int.mul_nonneg (by omega) (by omega)
        have hp1 : p ≤ 12000000 := by
         have := Int.mul_le_mul_of_nonneg_right (c := v) hgi.1.2 (by omega)
         omega
        have HWT := worth_any s v wc hgi.1 hgi.2
        rw [hp] at HWT HSTEP
        have HWT := Lib.hid HWT
        clear hp
        have g0 := HBG6.out.cell 0
        have g1 := HBG6.out.cell 1
        simp only [List.getElem?_toArray, List.getElem?_cons_zero, List.getElem?_cons_succ] at g0 g1
        go_wp2_with (go_at_call 30; refine HWT.out.mono ?_; rintro e w7 ⟨rfl, hb7⟩)
        have hsz6 : w.heap.size ≤ wc.heap.size := HBW6.out.size
        have HRW7 := Lib.hid (HRW6.out.below hb7)
        have HBW7 := Lib.hid (HBW6.out.trans (hb7.mono hsz6))
        have HBX7 := Lib.hid ((⟨HBX6.out.1.below hb7, HBX6.out.2.below hb7⟩ : _ ∧ _))
        clear HRW6 HBW6 HBX6 HBG6 g0 g1 hb7
        go_wp2_with fail
        go_roundw
        case rel => exact ⟨i + 1, V + p, _, by go_num, by omega, rfl, by omega, by omega, HSTEP, HRW7, HBW7, HBX7⟩
        case measure => simp [intOf]; omega
    ·
     have HPK : Hid (placed R G S k = some (Q, V)) := by
      have := HPL.out
      rwa [show i = k from by omega] at this
     have HQL : Hid (Q.length = n) := by rw [← HLR.out]; exact placed_length R G S k _ HPK.out
     have HIN : Hid (RowsIn R Q) := placed_in HVP.out k _ (by rw [HLG.out]; exact Nat.le_refl _) HPK.out
     have HLN : Hid (∀ r, (qx Q r).length ≤ k) := placed_len R G S k _ HPK.out
     have HLEG : Hid (LegalP single R G S V0 ↔ ((∀ r, r < n → RowLegal single (ix R r) (qx Q r)) ∧ V = V0)) := by
      unfold LegalP
      constructor
      ·
       rintro ⟨_, _, q, e, h4, h5⟩
       rw [HLS.out, HPK.out] at e
       obtain rfl : (Q, V) = q := by simpa using e
       exact ⟨fun r hr => h4 r (by rw [HLR.out]; exact hr), h5⟩
      ·
       rintro ⟨h4, h5⟩
       exact ⟨HV.out, by rw [HLS.out, HLG.out], (Q, V), by rw [HLS.out]; exact HPK.out, fun r hr => h4 r (by rw [← HLR.out]; exact hr), h5⟩
     clear HPL HPK
     obtain ⟨wo, rfl⟩ : ∃ wo : World, wo = wr := ⟨_, rfl⟩
     go_wp2_with fail
     go_loopw [10, 11, 12, 14, 107, 116] (fun _ _ _ _ v107 _ wz => ∃ (r : Nat) (Q' : List (List (Int × Int))), v107 = .int .i64 r ∧ r ≤ n ∧ Hid (Rows2 wz (g + 1) g Q') ∧ Hid (Q'.length = n) ∧ Hid (∀ j, r ≤ j → qx Q' j = qx Q j) ∧
       Hid (∀ j, j < r → RowLegal single (ix R j) (qx Q j)) ∧ Hid (Below w.heap.size w wz) ∧ Hid (Box wz w.heap.size 25 #[.slice ra n c, .slice ga k d, .bool single] ∧ Box wz (w.heap.size + 1) 31 #[.slice sa k sc, .int .i64 V0]))
      (fun _ _ _ _ v107 _ _ => n - (intOf v107).toNat)
     case atStart => exact ⟨0, Q, rfl, Nat.zero_le _, HRW, HQL, fun _ _ => rfl, fun j hj => absurd hj (by omega), HBW, HBX⟩
     case round =>
      clear HRW HBW HBX HQL
      obtain ⟨r, Q', rfl, hr, HR2, HQ2, HQS, HOK, HB2, HX2⟩ := hrel
      obtain ⟨wp, rfl⟩ : ∃ wp : World, wp = wr := ⟨_, rfl⟩
      by_cases hlt2 : r < n
      ·
       have hq : r < Q'.length := by rw [HQ2.out]; exact hlt2
       obtain ⟨vr, cr, own⟩ := HR2.out.get r hq
       rw [HQS.out r (Nat.le_refl _)] at own
       have hin := HIN.out r (by rw [HLR.out]; exact hlt2)
       have hrr := HRR.out r (by rw [HLR.out]; exact hlt2)
       have HLEG2 : Hid (LegalP single R G S V0 → RowLegal single (ix R r) (qx Q r)) := fun h => (HLEG.out.mp h).1 r hlt2
       have hln := HLN.out r
       have HQE : Hid (qx Q' r = qx Q r) := HQS.out r (Nat.le_refl _)
       obtain ⟨L0, hL0⟩ : ∃ L, qx Q r = L := ⟨_, rfl⟩
       rw [hL0] at own hin HLEG2 hln HQE
       obtain ⟨m, hmL⟩ : ∃ m, L0.length = m := ⟨_, rfl⟩
       rw [hmL] at own hln
       have HLO := Lib.hid own.lt
       obtain ⟨ao, cap, rfl, _⟩ := owns_pairs own
       obtain ⟨z, hz⟩ : ∃ x, ix R r = x := ⟨_, rfl⟩
       rw [hz] at hin hrr HLEG2
       have HIN2 := Lib.hid hin
       have HSORT := Lib.hid (sort_row (.slice ao m cap) m (g + 1) L0 wp hmL (by omega) (fun x hx => by have := hin x hx; omega) own)
       have HML := Lib.hid hmL
       have HL0 := Lib.hid hL0
       have HZ := Lib.hid hz
       clear hin own hmL hL0 hz
       go_wp2_with (go_at_call 31; refine HSORT.out.mono ?_; rintro e w1 ⟨rfl, L', hp, hord, hown, hgrow⟩)
       have hpr : Pairs w1 ao m L' := by
        obtain ⟨ao', cap', e, h⟩ := owns_pairs hown
        simp only [Value.slice.injEq] at e
        obtain ⟨rfl, _, rfl⟩ := e
        exact h
       have hgp : g < wp.heap.size := by
        obtain ⟨_, vs, h1, _⟩ := HR2.out
        exact lt_of_block h1
       have hbg : Below g wp w1 := (Below.refl _ _).grown hgrow (by omega) (fun k hk => by have := (HLO.out k hk).1; omega)
       have HPR := Lib.hid hpr
       have HLL : Hid (L'.length = m) := by rw [← HML.out]; exact hp.length_eq
       have HR3 : Hid (Rows2 w1 (g + 1) g (Q'.set r L')) := HR2.out.sorted r hq _ L' cr (by rw [HQE.out, HML.out]; exact HLL.out) (by rw [HQE.out, HML.out]; exact hown) hgrow
       have hgb0 : w.heap.size < g ∧ w.heap.size + 1 < g := by omega
       have HB3 := Lib.hid (HB2.out.trans (hbg.mono (by omega)))
       have HX3 := Lib.hid ((⟨HX2.out.1.of_heap (hbg.block _ hgb0.1), HX2.out.2.of_heap (hbg.block _ hgb0.2)⟩ : _ ∧ _))
       have HIN3 : Hid (∀ x ∈ L', (1 ≤ x.1 ∧ x.1 ≤ 12) ∧ 0 ≤ x.2 ∧ x.2 + x.1 ≤ z) := fun x hx => HIN2.out x (hp.mem_iff.mp hx)
       have HROW := Lib.hid (rowLegal_iff single z L0 L' (fun x hx => (HIN2.out x hx).1.1) hp hord)
       have HQ3 : Hid ((Q'.set r L').length = n) := by
        show _ = _
        rw [List.length_set]; exact HQ2.out
       have HQS3 : Hid (∀ j, r + 1 ≤ j → qx (Q'.set r L') j = qx Q j) := fun j hj => by
        rw [qx_set _ _ _ _ (by rw [HQ2.out]; exact hlt2), if_neg (by omega)]; exact HQS.out j (by omega)
       have hsz1' : w.heap.size + 1 < w1.heap.size := lt_of_block HX3.out.2
       clear hpr hp hord hown hgrow hbg HR2 HQ2 HQS HB2 HX2 HSORT HQE HIN2 hq cr HLO hgp
       go_wp2_with fail
       go_loopw [12, 14, 116] (fun v12 _ v116 wz => ∃ (i2 : Nat) (a : Int), v116 = .int .i64 i2 ∧ i2 ≤ m ∧ v12 = .int .i64 a ∧ 0 ≤ a ∧ a ≤ 4000 ∧ Hid (chain single 0 (L'.take i2) = some a) ∧ Hid (Below w1.heap.size w1 wz))
        (fun _ _ v116 _ => m - (intOf v116).toNat)
       case atStart => exact ⟨0, 0, rfl, Nat.zero_le _, rfl, by omega, by omega, rfl, Below.refl _ _⟩
       case round =>
        obtain ⟨i2, a, rfl, hi2, rfl, ha0, ha1, HCH, HBZ⟩ := hrel
        by_cases hlt3 : i2 < m
        ·
         obtain ⟨bb, oo, rfl, c1, c2⟩ := (HPR.out.below HBZ.out).2 i2 hlt3
         have hx := HIN3.out _ (pair_mem L' i2 (by rw [HLL.out]; exact hlt3))
         have HCS : Hid (chain single 0 (L'.take (i2 + 1)) = _) := chain_step single L' i2 (by rw [HLL.out]; exact hlt3) a HCH.out
         obtain ⟨t, ht⟩ : ∃ x, gs L' i2 = x := ⟨_, rfl⟩
         obtain ⟨f, hf⟩ : ∃ x, gv L' i2 = x := ⟨_, rfl⟩
         rw [ht] at c1 hx HCS; rw [hf] at c2 hx HCS
         clear ht hf
         dsimp only at hx
         have HX4 : Hid ((Box (wr.alloc (.cells #[.int .i64 t, .int .i64 f] 46)) w.heap.size 25 #[.slice ra n c, .slice ga k d, .bool single]) ∧ Box (wr.alloc (.cells #[.int .i64 t, .int .i64 f] 46)) wr.heap.size 46 #[.int .i64 t, .int .i64 f]) :=
          ⟨(HX3.out.1.below HBZ.out).alloc _, Box.new rfl⟩
         have HBZ4 := Lib.hid (HBZ.out.alloc HBZ.out.size (.cells #[.int .i64 t, .int .i64 f] 46))
         have hs4 : wr.heap.size < (wr.alloc (.cells #[.int .i64 t, .int .i64 f] 46)).heap.size := by simp
         clear HBZ
         go_upto_region 23 with fail
         generalize (wr.alloc (.cells #[.int .i64 t, .int .i64 f] 46)) = w4 at *
         generalize wr.heap.size = bx at *
         clear c1 c2
         have s0 := HX4.out.2.cell 0
         have s1 := HX4.out.2.cell 1
         have x2 := HX4.out.1.cell 2
         simp only [List.getElem?_toArray, List.getElem?_cons_zero, List.getElem?_cons_succ] at s0 s1 x2
         have hsw : w.heap.size ≤ w1.heap.size := HB3.out.size
         have HBF := Lib.hid (HB3.out.trans (HBZ4.out.mono hsw))
         by_cases hfa : f < a
         ·
          have FIN : Hid (¬ LegalP single R G S V0) := fun h => by
           have h1 := HROW.out.mp (HLEG2.out h)
           have h2 := HCS.out
           rw [if_pos (Or.inl hfa)] at h2
           rw [rowOk_none (chain_none single L' (i2 + 1) h2)] at h1
           simp at h1
          have e1 : decide (f < a) = true := by simp; omega
          clear HX3 HX4 HR3 x2
          go_wp2_with fail
          go_ret
          exact ⟨false, rfl, HBF.out, by have := FIN.out; simp [this]⟩
         ·
          have e1 : decide (f < a) = false := by simp; omega
          by_cases hsa : single = true ∧ f = a + 1
          ·
           have FIN : Hid (¬ LegalP single R G S V0) := fun h => by
            have h1 := HROW.out.mp (HLEG2.out h)
            have h2 := HCS.out
            rw [if_pos (Or.inr hsa)] at h2
            rw [rowOk_none (chain_none single L' (i2 + 1) h2)] at h1
            simp at h1
           have e2 : (f == a + 1) = true := by simp; exact hsa.2
           obtain ⟨hs1, _⟩ := hsa
           clear HX3 HX4 HR3 hfa
           go_wp2_with fail
           go_ret
           exact ⟨false, rfl, HBF.out, by have := FIN.out; simp [this]⟩
          ·
           have HCN : Hid (chain single 0 (L'.take (i2 + 1)) = some (f + t)) := by
            have h2 := HCS.out
            rw [if_neg (fun h => h.elim hfa hsa)] at h2
            exact h2
           cases single
           ·
            clear HX3 HR3 hfa HBF HCS hsa
            go_wp2_with fail
            go_roundw
            case rel => exact ⟨i2 + 1, f + t, by go_num, by omega, rfl, by omega, by omega, HCN, HBZ4⟩
            case measure => simp [intOf]; omega
           ·
            have e2 : (f == a + 1) = false := by simp; exact fun e => hsa ⟨rfl, e⟩
            clear HX3 HR3 hfa HBF HCS hsa
            go_wp2_with fail
            go_roundw
            case rel => exact ⟨i2 + 1, f + t, by go_num, by omega, rfl, by omega, by omega, HCN, HBZ4⟩
            case measure => simp [intOf]; omega
        ·
         have HCE : Hid (chain single 0 L' = some a) := by
          have := HCH.out
          rwa [List.take_of_length_le (by rw [HLL.out]; omega)] at this
         clear HCH
         have hsw : w.heap.size ≤ w1.heap.size := HB3.out.size
         have HBF := Lib.hid (HB3.out.trans (HBZ.out.mono hsw))
         have HX4 := Lib.hid ((⟨HX3.out.1.below HBZ.out, HX3.out.2.below HBZ.out⟩ : _ ∧ _))
         have HR4 := Lib.hid (HR3.out.below HBZ.out)
         have HRK := Lib.hid (rowOk_some (single := single) (n := z) HCE.out)
         have x0 := HX4.out.1.cell 0
         have x2 := HX4.out.1.cell 2
         simp only [List.getElem?_toArray, List.getElem?_cons_zero, List.getElem?_cons_succ] at x0 x2
         have GO : Hid (rowOk single z L' = true → (∀ j, j < r + 1 → RowLegal single (ix R j) (qx Q j))) := fun h j hj => by
          by_cases e : j = r
          ·
           rw [e, HZ.out, HL0.out]; exact HROW.out.mpr h
          ·
           exact HOK.out j (by omega)
         have FIN : Hid (rowOk single z L' = false → ¬ LegalP single R G S V0) := fun h hL => by
          have h1 := HROW.out.mp (HLEG2.out hL)
          rw [h] at h1; simp at h1
         clear HX3 HR3 HB3 HBZ HCE HIN3 HOK HROW HLEG2
         cases single
         ·
          have HGO := Lib.hid (GO.out (by rw [HRK.out]; rfl))
          clear GO FIN HRK x0
          go_wp2_with fail
          go_roundw
          case rel => exact ⟨r + 1, _, by go_num, by omega, HR4, HQ3, HQS3, HGO, HBF, HX4⟩
          case measure => simp [intOf]; omega
         ·
          by_cases ha2 : 0 < a
          ·
           have e1 : decide (0 < a) = true := by simp; omega
           obtain ⟨rb, ro, rfl, r1⟩ := (HR.out.below HBF.out).2 r hlt2
           rw [HZ.out] at r1
           by_cases haz : a = z - 1
           ·
            have e2 : (a == z - 1) = true := by simp; omega
            have FI := Lib.hid (FIN.out (by rw [HRK.out]; simp; omega))
            clear GO FIN HRK HX4 HR4
            go_wp2_with fail
            go_ret
            exact ⟨false, rfl, HBF.out, by have := FI.out; simp [this]⟩
           ·
            have e2 : (a == z - 1) = false := by simp; omega
            have HGO := Lib.hid (GO.out (by rw [HRK.out]; simp; omega))
            clear GO FIN HRK
            go_wp2_with fail
            go_roundw
            case rel => exact ⟨r + 1, _, by go_num, by omega, HR4, HQ3, HQS3, HGO, HBF, HX4⟩
            case measure => simp [intOf]; omega
          ·
           have e1 : decide (0 < a) = false := by simp; omega
           have HGO := Lib.hid (GO.out (by rw [HRK.out]; simp; omega))
           clear GO FIN HRK x0
           go_wp2_with fail
           go_roundw
           case rel => exact ⟨r + 1, _, by go_num, by omega, HR4, HQ3, HQS3, HGO, HBF, HX4⟩
           case measure => simp [intOf]; omega
      ·
       have HALL : Hid (LegalP single R G S V0 ↔ V = V0) := by
        have h : ∀ j, j < n → RowLegal single (ix R j) (qx Q j) := fun j hj => HOK.out j (by omega)
        exact ⟨fun hl => (HLEG.out.mp hl).2, fun e => HLEG.out.mpr ⟨h, e⟩⟩
       clear HOK HQS HQ2 HR2 HLEG HIN HLN
       have y1 := HX2.out.2.cell 1
       simp only [List.getElem?_toArray, List.getElem?_cons_zero, List.getElem?_cons_succ] at y1
       go_wp2_with fail
       go_ret
       exact ⟨V == V0, rfl, HB2.out, by rw [HALL.out]; simp⟩
  ·
   have t1 : ((k : Int) != (m : Int)) = true := by simp; omega
   have FIN : Hid (¬ LegalP single R G S V0) := by
    intro h; have := h.2.1; rw [HLS.out, HLG.out] at this; exact hkm this
   clear hkm
   go_wp2_with fail
   go_ret
   exact ⟨false, rfl, hbw, by have := FIN.out; simp [this]⟩
end Go.Proofs.YthabgljdndbphaaGreatDoor
