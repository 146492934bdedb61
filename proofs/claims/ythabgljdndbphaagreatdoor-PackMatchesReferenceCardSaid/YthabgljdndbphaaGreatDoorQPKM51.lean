/- foyerlaw23.PackMatchesReference: the walk. -/
import Derived.Test.YthabgljdndbphaaGreatDoorQPKM37
import Derived.Test.YthabgljdndbphaaGreatDoorQPKM40
import Derived.Test.YthabgljdndbphaaGreatDoorQPKM50

set_option linter.unusedVariables false
set_option linter.unusedSimpArgs false
namespace Go.Proofs.YthabgljdndbphaaGreatDoor
open Go.RowKit Go.IntWalk Go.Maps Go.WideMaps
set_option linter.unusedSimpArgs false
set_option linter.unusedVariables false

theorem stp_less {n m : Nat} (hn : n ≤ 5) (hm : m ≤ 5) : stpCap n m ≤ 99999 := by
 have : ∀ n, n < 6 → ∀ k, k < 6 → stpCap n k ≤ 99999 := by decide
 exact this n (by omega) m (by omega)
theorem stp_kids {G : List (Int × Int)} {val : Int} : ∀ (k g : Nat) (L : List (Int × Bool)) (gain : Int) (base : Nat), ∀ t ∈ stpF G val k g L gain base, t.kids.length ≤ L.length + 1
 | 0, g, L, gain, base, t, ht => by
  rw [stpF, stpHead] at ht
  split at ht
  ·
   rw [List.mem_singleton.1 ht]; simp
  ·
   split at ht <;> (rw [List.mem_singleton.1 ht]; simp)
 | k + 1, g, L, gain, base, t, ht => by
  cases hn : L.findIdx? negP with
  | some i => rw [stp_neg hn] at ht; rw [List.mem_singleton.1 ht]; simp
  | none =>
   by_cases hb : gain + restB G g L ≤ val
   ·
    rw [stp_bound hn hb] at ht; rw [List.mem_singleton.1 ht]; simp
   ·
    rw [stp_succ hn hb] at ht
    rcases List.mem_cons.1 ht with rfl | ht
    ·
     have := (prvKids_at (stpKid (stpF G val k (g + 1)) G g L gain) [0] 0 L.length base 0 (L.length + 1) (by omega)).2
     show (kidsU G val k g L gain base (L.length + 1)).2.length ≤ _
     unfold kidsU
     omega
    ·
     have key : ∀ r, r ≤ L.length → ∀ t ∈ (kidsU G val k g L gain base r).1, t.kids.length ≤ L.length + 1 := by
      intro r
      induction r with
      | zero => intro _ t h; rw [kidsU_zero] at h; simp at h
      | succ r ih =>
       intro hr t h
       rw [kidsU_run (by omega)] at h
       rcases List.mem_append.1 h with h | h
       ·
        exact ih (by omega) t h
       ·
        have := stp_kids k (g + 1) _ _ _ t h
        rw [sit_len] at this
        exact this
     rw [kidsU_none] at ht
     rcases List.mem_append.1 ht with h | h
     ·
      exact key L.length (Nat.le_refl _) t h
     ·
      exact stp_kids k (g + 1) _ _ _ t h
theorem stp_kidsAt {G : List (Int × Int)} {val gain : Int} {k g base n : Nat} {L : List (Int × Bool)} (hn : n < (stpF G val k g L gain base).length) : (stepAt (stpF G val k g L gain base) n).kids.length ≤ L.length + 1 := by
 have e : stepAt (stpF G val k g L gain base) n = (stpF G val k g L gain base)[n] := by unfold stepAt; simp [hn]
 rw [e]
 exact stp_kids k g L gain base _ (List.getElem_mem hn)
set_option maxRecDepth 100000 in
set_option maxHeartbeats 32000000 in
theorem matches_law (w : World) (hk : PKit w) (ra ga : Option Addr) (n c m d : Nat) (single : Bool) (R : List Int) (G : List (Int × Int)) (hR : Ints w ra n R) (hG : Pairs w ga m G) (_hn : n ≤ 9223372036854775807) (_hm : m ≤ 9223372036854775807) (hmd : m ≤ d) (hc : ra = none → c = 0) :
  Calls Tryz.prog 3 #[.agg #[.slice ra n c, .slice ga m d, .bool single]] w fun e w' => e = .returned (.bool true) ∧ Below w.heap.size w w' := by
 obtain rfl : R.length = n := hR.1
 obtain rfl : G.length = m := hG.1
 have HN0 := Lib.hid (pb_new (c := c) (d := d) (single := single) hR hG hk)
 clear hR hG hk
 refine enter_fr (N := 70) [.agg #[.slice ra R.length c, .slice ga G.length d, .bool single]] (Tryz.func3) rfl Tryz.ntmps3 (by rfl) (fun a hF => ?_);replace hF := hF.kp [0] rfl;refine wp_seq_k (fun K hK => ?_);refine region_seq (l := [0, 1]) (by kernel_rfl) ?_;refine seq_one ?_;revert hF;refine qe1 fun a hF => ?_
 obtain ⟨w1, gp, e1, e2, HB, HP⟩ := HN0.out
 clear HN0
 rw [e1]
 rw [← e2] at hF
 clear e1 e2
 revert hF;refine zre 1 [2] [1] fun a hF => ?_;refine hK _ _ ?_;clear hK;refine wp_seq_k (fun K hK => ?_);refine region_seq (l := [0, 1]) (by kernel_rfl) ?_;revert hF;refine zos fun K hK => ?_
 refine (head_any w1 HP.out.kit).mono ?_
 rintro e w2 ⟨rfl, hb⟩
 have HB := Lib.hid (HB.out.trans (hb.mono HB.out.size))
 have HP := Lib.hid (HP.out.below hb)
 clear hb
 refine hK _ _ (fun a hF => ?_);clear hK K;revert hF;refine zre 1 [2] [1, 3] fun a hF => ?_;refine hK _ _ ?_;clear hK;refine wp_seq_k (fun K hK => ?_);refine wp_seq_k (fun K hK => ?_)
 have p0 := boxed_cell (j := 0) HP.out.box rfl
 have p1 := boxed_cell (j := 1) HP.out.box rfl
 have p2 := boxed_cell (j := 2) HP.out.box rfl
 by_cases hfew : R.length ≤ 200 ∧ G.length ≤ 200
 rotate_left
 ·
  have HFX : Hid (Calls Tryz.prog 9 #[.agg #[.slice ra R.length c, .slice ga G.length d, .bool single], .int .i64 200] w2 fun e w' => e = .returned (.bool false) ∧ Below w2.heap.size w2 w') := by
   have := few_any ra ga R.length c G.length d single 200 w2
   rw [decide_eq_false hfew] at this
   exact this
  clear hfew
  revert hF;refine zrp [4] [1, 2] fun a hF => ?_;revert hF;refine zos fun K hK => ?_
  refine HFX.out.mono ?_
  rintro e w3 ⟨rfl, hb⟩
  have HB := Lib.hid (HB.out.trans (hb.mono HB.out.size))
  clear hb p0 p1 p2 HFX
  refine hK _ _ (fun a hF => ?_);clear hK K;revert hF;refine zre 2 [4] [1, 3, 13] fun a hF => ?_;refine hK _ _ ?_;clear hK
  refine cond_yes hF rfl ?_
  revert hF;refine zrs [1, 2] [2] fun a hF => ?_;refine wp_ret ?_;(try simp only [then_ret, block_ret, goto_ret]);revert hF;refine zq ?_
  exact ⟨rfl, HB.out⟩
 have HFX : Hid (Calls Tryz.prog 9 #[.agg #[.slice ra R.length c, .slice ga G.length d, .bool single], .int .i64 200] w2 fun e w' => e = .returned (.bool true) ∧ Below w2.heap.size w2 w') := by
  have := few_any ra ga R.length c G.length d single 200 w2
  rw [decide_eq_true hfew] at this
  exact this
 obtain ⟨hn2, hm2⟩ := hfew
 revert hF;refine zrp [4] [1, 2] fun a hF => ?_;revert hF;refine zos fun K hK => ?_
 refine HFX.out.mono ?_
 rintro e w3 ⟨rfl, hb⟩
 have HB := Lib.hid (HB.out.trans (hb.mono HB.out.size))
 have HP := Lib.hid (HP.out.below hb)
 clear hb p0 p1 p2 HFX
 refine hK _ _ (fun a hF => ?_);clear hK K;revert hF;refine zre 2 [4] [1, 3, 13] fun a hF => ?_;refine hK _ _ ?_;clear hK
 refine cond_no hF rfl ?_
 refine wp_skip ?_
 refine hK _ _ ?_;clear hK
 refine seq_cut (fun a' w' => FrF 70 [] [(1, .pointer (some ⟨gp, 0, none⟩)), (3, .bool true)] a' ∧ Hid (Below w.heap.size w w') ∧ Hid (PbAt w' gp ra ga c d single R G) ∧ (validS R G = false ∨ (validS R G = true ∧ (40 < R.length ∨ 8 < G.length)) ∨ (validS R G = true ∧ R.length ≤ 4 ∧ G.length ≤ 5))) (fun KQ hKQ => ?_) ?_
 ·
  refine wp_seq_k (fun K hK => ?_)
  have p0 := boxed_cell (j := 0) HP.out.box rfl
  have p1 := boxed_cell (j := 1) HP.out.box rfl
  have p2 := boxed_cell (j := 2) HP.out.box rfl
  revert hF;refine zrp [4] [1, 2, 3, 4, 5, 6, 7, 8, 9, 10, 11, 12, 13, 14, 15, 16, 17, 18, 19, 20, 21, 22, 23, 24, 25] fun a hF => ?_;revert hF;refine zos fun K hK => ?_
  refine (refvalid_any ra ga R.length c G.length d single _ R G w3 (by omega) (by omega) HP.out.runs HP.out.groups rfl).mono ?_
  rintro e w4 ⟨rfl, hb⟩
  have HB := Lib.hid (HB.out.trans (hb.mono HB.out.size))
  have HP := Lib.hid (HP.out.below hb)
  clear hb p0 p1 p2
  have p0 := boxed_cell (j := 0) HP.out.box rfl
  have p1 := boxed_cell (j := 1) HP.out.box rfl
  have p2 := boxed_cell (j := 2) HP.out.box rfl
  cases hv : validS R G with
  | false =>
   rw [hv] at hKQ
   clear hv
   refine hK _ _ (fun a hF => ?_);clear hK K;revert hF;refine zre 2 [1, 0, 0, 0, 0, 0, 0, 0, 0, 0, 0, 5, 1, 0, 0, 0, 0, 5, 1, 0, 0, 0, 0, 5] [1, 3, 40] fun a hF => ?_
   clear p0 p1 p2
   refine hK _ _ ?_;clear hK
   refine cond_no hF rfl ?_
   refine wp_skip ?_
   exact hKQ _ _ ⟨hF.sub ⟨rfl, rfl, trivial⟩, HB, HP, Or.inl rfl⟩
  | true =>
   have HV := Lib.hid hv
   clear hv
   by_cases h4 : 4 < R.length
   ·
    by_cases h40 : R.length ≤ 40
    ·
     by_cases h8 : G.length ≤ 8
     ·
      have n4 : decide ((4 : Int) < ((R.length : Nat) : Int)) = true := by simp; omega
      have n4' : ((4 : Int) < ((R.length : Nat) : Int)) := by omega
      have n40 : decide (((R.length : Nat) : Int) ≤ (40 : Int)) = true := by simp; omega
      have n40' : (((R.length : Nat) : Int) ≤ (40 : Int)) := by omega
      have m8 : decide (((G.length : Nat) : Int) ≤ (8 : Int)) = true := by simp; omega
      have m8' : (((G.length : Nat) : Int) ≤ (8 : Int)) := by omega
      refine hK _ _ (fun a hF => ?_);clear hK K;revert hF;refine zre 2 [1, 4, 4, 4, 4, 1, 0, 0, 0, 0, 5, 5, 1, 4, 4, 4, 4, 5, 1, 4, 4, 4, 4, 5] [1, 3, 40] fun a hF => ?_
      clear n4 n4' n40 n40' m8 m8' p0 p1 p2
      refine hK _ _ ?_;clear hK
      refine cond_yes hF rfl ?_
      revert hF;refine zrs [1, 2] [2] fun a hF => ?_;refine wp_ret ?_;(try simp only [then_ret, block_ret, goto_ret]);revert hF;refine zq ?_
      exact ⟨rfl, HB.out⟩
     ·
      have n4 : decide ((4 : Int) < ((R.length : Nat) : Int)) = true := by simp; omega
      have n4' : ((4 : Int) < ((R.length : Nat) : Int)) := by omega
      have n40 : decide (((R.length : Nat) : Int) ≤ (40 : Int)) = true := by simp; omega
      have n40' : (((R.length : Nat) : Int) ≤ (40 : Int)) := by omega
      have m8 : decide (((G.length : Nat) : Int) ≤ (8 : Int)) = false := by simp; omega
      have m8' : ¬ (((G.length : Nat) : Int) ≤ (8 : Int)) := by omega
      refine hK _ _ (fun a hF => ?_);clear hK K;revert hF;refine zre 2 [1, 4, 4, 4, 4, 1, 0, 0, 0, 0, 5, 5, 1, 4, 4, 4, 4, 5, 1, 4, 4, 4, 4, 5] [1, 3, 40] fun a hF => ?_
      clear n4 n4' n40 n40' m8 m8' p0 p1 p2
      refine hK _ _ ?_;clear hK
      refine cond_no hF rfl ?_
      refine wp_skip ?_
      exact hKQ _ _ ⟨hF.sub ⟨rfl, rfl, trivial⟩, HB, HP, Or.inr (Or.inl ⟨HV.out, by omega⟩)⟩
    ·
     have n4 : decide ((4 : Int) < ((R.length : Nat) : Int)) = true := by simp; omega
     have n4' : ((4 : Int) < ((R.length : Nat) : Int)) := by omega
     have n40 : decide (((R.length : Nat) : Int) ≤ (40 : Int)) = false := by simp; omega
     have n40' : ¬ (((R.length : Nat) : Int) ≤ (40 : Int)) := by omega
     refine hK _ _ (fun a hF => ?_);clear hK K;revert hF;refine zre 2 [1, 4, 4, 4, 4, 1, 0, 0, 0, 0, 5, 5, 1, 4, 4, 4, 4, 5, 1, 0, 0, 0, 0, 5] [1, 3, 40] fun a hF => ?_
     clear n4 n4' n40 n40' p0 p1 p2
     refine hK _ _ ?_;clear hK
     refine cond_no hF rfl ?_
     refine wp_skip ?_
     exact hKQ _ _ ⟨hF.sub ⟨rfl, rfl, trivial⟩, HB, HP, Or.inr (Or.inl ⟨HV.out, by omega⟩)⟩
   ·
    by_cases h5 : 5 < G.length
    ·
     by_cases h8 : G.length ≤ 8
     ·
      have n4 : decide ((4 : Int) < ((R.length : Nat) : Int)) = false := by simp; omega
      have n4' : ¬ ((4 : Int) < ((R.length : Nat) : Int)) := by omega
      have m5 : decide ((5 : Int) < ((G.length : Nat) : Int)) = true := by simp; omega
      have m5' : ((5 : Int) < ((G.length : Nat) : Int)) := by omega
      have n40 : decide (((R.length : Nat) : Int) ≤ (40 : Int)) = true := by simp; omega
      have n40' : (((R.length : Nat) : Int) ≤ (40 : Int)) := by omega
      have m8 : decide (((G.length : Nat) : Int) ≤ (8 : Int)) = true := by simp; omega
      have m8' : (((G.length : Nat) : Int) ≤ (8 : Int)) := by omega
      refine hK _ _ (fun a hF => ?_);clear hK K;revert hF;refine zre 2 [1, 4, 4, 4, 4, 1, 4, 4, 4, 4, 5, 5, 1, 4, 4, 4, 4, 5, 1, 4, 4, 4, 4, 5] [1, 3, 40] fun a hF => ?_
      clear n4 n4' m5 m5' n40 n40' m8 m8' p0 p1 p2
      refine hK _ _ ?_;clear hK
      refine cond_yes hF rfl ?_
      revert hF;refine zrs [1, 2] [2] fun a hF => ?_;refine wp_ret ?_;(try simp only [then_ret, block_ret, goto_ret]);revert hF;refine zq ?_
      exact ⟨rfl, HB.out⟩
     ·
      have n4 : decide ((4 : Int) < ((R.length : Nat) : Int)) = false := by simp; omega
      have n4' : ¬ ((4 : Int) < ((R.length : Nat) : Int)) := by omega
      have m5 : decide ((5 : Int) < ((G.length : Nat) : Int)) = true := by simp; omega
      have m5' : ((5 : Int) < ((G.length : Nat) : Int)) := by omega
      have n40 : decide (((R.length : Nat) : Int) ≤ (40 : Int)) = true := by simp; omega
      have n40' : (((R.length : Nat) : Int) ≤ (40 : Int)) := by omega
      have m8 : decide (((G.length : Nat) : Int) ≤ (8 : Int)) = false := by simp; omega
      have m8' : ¬ (((G.length : Nat) : Int) ≤ (8 : Int)) := by omega
      refine hK _ _ (fun a hF => ?_);clear hK K;revert hF;refine zre 2 [1, 4, 4, 4, 4, 1, 4, 4, 4, 4, 5, 5, 1, 4, 4, 4, 4, 5, 1, 4, 4, 4, 4, 5] [1, 3, 40] fun a hF => ?_
      clear n4 n4' m5 m5' n40 n40' m8 m8' p0 p1 p2
      refine hK _ _ ?_;clear hK
      refine cond_no hF rfl ?_
      refine wp_skip ?_
      exact hKQ _ _ ⟨hF.sub ⟨rfl, rfl, trivial⟩, HB, HP, Or.inr (Or.inl ⟨HV.out, by omega⟩)⟩
    ·
     have n4 : decide ((4 : Int) < ((R.length : Nat) : Int)) = false := by simp; omega
     have n4' : ¬ ((4 : Int) < ((R.length : Nat) : Int)) := by omega
     have m5 : decide ((5 : Int) < ((G.length : Nat) : Int)) = false := by simp; omega
     have m5' : ¬ ((5 : Int) < ((G.length : Nat) : Int)) := by omega
     refine hK _ _ (fun a hF => ?_);clear hK K;revert hF;refine zre 2 [1, 4, 4, 4, 4, 1, 4, 4, 4, 4, 5, 5, 1, 0, 0, 0, 0, 5, 1, 0, 0, 0, 0, 5] [1, 3, 40] fun a hF => ?_
     clear n4 n4' m5 m5' p0 p1 p2
     refine hK _ _ ?_;clear hK
     refine cond_no hF rfl ?_
     refine wp_skip ?_
     exact hKQ _ _ ⟨hF.sub ⟨rfl, rfl, trivial⟩, HB, HP, Or.inr (Or.inr ⟨HV.out, by omega, by omega⟩)⟩
 clear hF HB HP
 rintro a w4 ⟨hF, HB, HP, hcs⟩
 rcases hcs with hv | ⟨hv, hbig⟩ | ⟨hv, hn4, hm5⟩
 ·
  have HVB := Lib.hid hv
  refine wp_seq_k (fun K hK => ?_)
  have p0 := boxed_cell (j := 0) HP.out.box rfl
  have p1 := boxed_cell (j := 1) HP.out.box rfl
  have p2 := boxed_cell (j := 2) HP.out.box rfl
  revert hF;refine zrp [4] [1, 2, 3, 4, 5, 6, 7, 8, 9, 10] fun a hF => ?_;revert hF;refine zos fun K hK => ?_
  refine (solve_bad w4 ra ga c G.length d single R G (by omega) (by omega) HP.out.runs HP.out.groups hv).mono ?_
  rintro e w5 ⟨rfl, hb⟩
  clear p0 p1 p2
  have HB := Lib.hid (HB.out.trans (hb.mono HB.out.size))
  have HP := Lib.hid (HP.out.below hb)
  have HPS : Hid (Pairs w5 none 0 [] ∧ Steps w5 none 0 []) := ⟨nil_pairs _, nil_steps _⟩
  clear hb
  refine hK _ _ (fun a hF => ?_);clear hK K;revert hF;refine zrc 2 [1, 4, 4, 4] [6, 7, 8, 9, 10] fun a hF => ?_;refine seq_one ?_;revert hF;refine qe0 fun a hF => ?_
  obtain ⟨wa1, wb1, bx1, bp1, e1, e2, e3, e4, hSV, hSV2, HN⟩ := got_new (sc := 0) (B := 0) (pc := 0) HPS.out.1 HPS.out.2
  rw [e1]
  rw [← e2] at hF
  clear e1
  refine seq_one ?_;revert hF;refine qe0 fun a hF => ?_
  try rw [e3]
  rw [← e4] at hF
  clear e2 e3 e4
  refine seq_one ?_;refine op_storev rfl rfl hF rfl rfl rfl rfl hSV ?_;clear hF;refine fun a hF => ?_
  clear hSV
  have hSV := hSV2
  clear hSV2
  refine seq_one ?_;refine op_storev rfl rfl hF rfl rfl rfl rfl hSV ?_;clear hF;refine fun a hF => ?_
  clear hSV
  have HB := Lib.hid (HB.out.trans (HN.out.1.mono HB.out.size))
  have HP := Lib.hid (HP.out.below HN.out.1)
  have HG1 := Lib.hid HN.out.2
  clear HN HPS
  generalize (wb1.setRow bx1 _).setRow bp1 _ = wz1 at *
  revert hF;refine zre 10 [2] [1, 3, 4, 5, 6] fun a hF => ?_;refine hK _ _ ?_;clear hK;refine wp_seq_k (fun K hK => ?_)
  have p0 := boxed_cell (j := 0) HP.out.box rfl
  have p1 := boxed_cell (j := 1) HP.out.box rfl
  have p2 := boxed_cell (j := 2) HP.out.box rfl
  revert hF;refine zrp [4] [1, 2, 3, 4, 5, 6, 7, 8, 9, 10] fun a hF => ?_;revert hF;refine zos fun K hK => ?_
  refine (rsolve_bad wz1 ra ga c d single R G (by omega) (by omega) HP.out.runs HP.out.groups HVB.out).mono ?_
  rintro e w6 ⟨rfl, hb⟩
  have HB := Lib.hid (HB.out.trans (hb.mono HB.out.size))
  have HP := Lib.hid (HP.out.below hb)
  have HG1 := Lib.hid (HG1.out.below hb)
  have HPS : Hid (Pairs w6 none 0 [] ∧ Steps w6 none 0 []) := ⟨nil_pairs _, nil_steps _⟩
  clear hb
  clear p0 p1 p2
  refine hK _ _ (fun a hF => ?_);clear hK K;revert hF;refine zrc 2 [1, 4, 4, 4] [6, 7, 8, 9, 10] fun a hF => ?_;refine seq_one ?_;revert hF;refine qe0 fun a hF => ?_
  obtain ⟨wa2, wb2, bx2, bp2, e1, e2, e3, e4, hSV, hSV2, HN⟩ := got_new (sc := 0) (B := 0) (pc := 0) HPS.out.1 HPS.out.2
  rw [e1]
  rw [← e2] at hF
  clear e1
  refine seq_one ?_;revert hF;refine qe0 fun a hF => ?_
  try rw [e3]
  rw [← e4] at hF
  clear e2 e3 e4
  refine seq_one ?_;refine op_storev rfl rfl hF rfl rfl rfl rfl hSV ?_;clear hF;refine fun a hF => ?_
  clear hSV
  have hSV := hSV2
  clear hSV2
  refine seq_one ?_;refine op_storev rfl rfl hF rfl rfl rfl rfl hSV ?_;clear hF;refine fun a hF => ?_
  clear hSV
  have HB := Lib.hid (HB.out.trans (HN.out.1.mono HB.out.size))
  have HP := Lib.hid (HP.out.below HN.out.1)
  have HG1 := Lib.hid (HG1.out.below HN.out.1)
  have HG2 := Lib.hid HN.out.2
  clear HN HPS
  generalize (wb2.setRow bx2 _).setRow bp2 _ = wz2 at *
  revert hF;refine zre 10 [2] [3, 4, 5, 6, 7, 8, 9] fun a hF => ?_;refine hK _ _ ?_;clear hK;refine wp_seq_k (fun K hK => ?_)
  have x0 := boxed_cell (j := 0) HG1.out.x rfl
  have x1 := boxed_cell (j := 1) HG1.out.x rfl
  have y0 := boxed_cell (j := 0) HG1.out.y rfl
  have x0' := boxed_cell (j := 0) HG2.out.x rfl
  have x1' := boxed_cell (j := 1) HG2.out.x rfl
  have y0' := boxed_cell (j := 0) HG2.out.y rfl
  revert hF;refine zrp [1, 1, 1, 1, 5, 5, 1, 4, 4] [9, 10, 11, 12, 13, 14, 15, 16] fun a hF => ?_;revert hF;refine zos fun K hK => ?_
  refine (same_any wz2 _ _ _ _ _ _ _ _ _ _ HG1.out.pairs HG2.out.pairs (by omega) (by omega)).mono ?_
  rintro e w9 ⟨q, rfl, hb, hq⟩
  obtain rfl : q = true := hq.mpr ⟨rfl, rfl⟩
  clear hq x0 x1 y0 x0' x1' y0'
  have HB := Lib.hid (HB.out.trans (hb.mono HB.out.size))
  have HG1 := Lib.hid (HG1.out.below hb)
  have HG2 := Lib.hid (HG2.out.below hb)
  clear hb
  have y0 := boxed_cell (j := 0) HG1.out.y rfl
  have y0' := boxed_cell (j := 0) HG2.out.y rfl
  refine hK _ _ (fun a hF => ?_);clear hK K;revert hF;refine zrc 10 [5, 1, 4, 4] [14, 15, 16] fun a hF => ?_;revert hF;refine zos fun K hK => ?_
  refine (sameproofs_any w9 _ _ _ _ _ [] HG1.out.steps HG2.out.steps (by omega) (fun n hn => absurd hn (Nat.not_lt_zero _))).mono ?_
  rintro e w10 ⟨rfl, hb⟩
  clear y0 y0'
  refine hK _ _ (fun a hF => ?_);clear hK K;revert hF;refine zre 15 [5, 2] [2] fun a hF => ?_;refine hK _ _ ?_;clear hK;refine wp_ret ?_;(try simp only [then_ret, block_ret, goto_ret]);revert hF;refine zq ?_
  exact ⟨rfl, HB.out.trans (hb.mono HB.out.size)⟩
 ·
  have HV := Lib.hid hv
  clear hv
  refine wp_seq_k (fun K hK => ?_)
  have p0 := boxed_cell (j := 0) HP.out.box rfl
  have p1 := boxed_cell (j := 1) HP.out.box rfl
  have p2 := boxed_cell (j := 2) HP.out.box rfl
  revert hF;refine zrp [4] [1, 2, 3, 4, 5, 6, 7, 8, 9, 10] fun a hF => ?_;revert hF;refine zos fun K hK => ?_
  refine (solve_many w4 ra ga c G.length d single R G (by omega) (by omega) HP.out.runs HP.out.groups HV.out hbig).mono ?_
  rintro e w5 ⟨rfl, hb⟩
  clear p0 p1 p2
  have HB := Lib.hid (HB.out.trans (hb.mono HB.out.size))
  have HP := Lib.hid (HP.out.below hb)
  have HPS : Hid (Pairs w5 none 0 [] ∧ Steps w5 none 0 []) := ⟨nil_pairs _, nil_steps _⟩
  clear hb
  refine hK _ _ (fun a hF => ?_);clear hK K;revert hF;refine zrc 2 [1, 4, 4, 4] [6, 7, 8, 9, 10] fun a hF => ?_;refine seq_one ?_;revert hF;refine qe0 fun a hF => ?_
  obtain ⟨wa1, wb1, bx1, bp1, e1, e2, e3, e4, hSV, hSV2, HN⟩ := got_new (sc := 0) (B := 0) (pc := 0) HPS.out.1 HPS.out.2
  rw [e1]
  rw [← e2] at hF
  clear e1
  refine seq_one ?_;revert hF;refine qe0 fun a hF => ?_
  try rw [e3]
  rw [← e4] at hF
  clear e2 e3 e4
  refine seq_one ?_;refine op_storev rfl rfl hF rfl rfl rfl rfl hSV ?_;clear hF;refine fun a hF => ?_
  clear hSV
  have hSV := hSV2
  clear hSV2
  refine seq_one ?_;refine op_storev rfl rfl hF rfl rfl rfl rfl hSV ?_;clear hF;refine fun a hF => ?_
  clear hSV
  have HB := Lib.hid (HB.out.trans (HN.out.1.mono HB.out.size))
  have HP := Lib.hid (HP.out.below HN.out.1)
  have HG1 := Lib.hid HN.out.2
  clear HN HPS
  generalize (wb1.setRow bx1 _).setRow bp1 _ = wz1 at *
  revert hF;refine zre 10 [2] [1, 3, 4, 5, 6] fun a hF => ?_;refine hK _ _ ?_;clear hK;refine wp_seq_k (fun K hK => ?_)
  have p0 := boxed_cell (j := 0) HP.out.box rfl
  have p1 := boxed_cell (j := 1) HP.out.box rfl
  have p2 := boxed_cell (j := 2) HP.out.box rfl
  revert hF;refine zrp [4] [1, 2, 3, 4, 5, 6, 7, 8, 9, 10] fun a hF => ?_;revert hF;refine zos fun K hK => ?_
  refine (rsolve_many wz1 ra ga c d single R G (by omega) (by omega) HP.out.runs HP.out.groups HV.out hbig).mono ?_
  rintro e w6 ⟨rfl, hb⟩
  have HB := Lib.hid (HB.out.trans (hb.mono HB.out.size))
  have HP := Lib.hid (HP.out.below hb)
  have HG1 := Lib.hid (HG1.out.below hb)
  have HPS : Hid (Pairs w6 none 0 [] ∧ Steps w6 none 0 []) := ⟨nil_pairs _, nil_steps _⟩
  clear hb
  clear p0 p1 p2
  refine hK _ _ (fun a hF => ?_);clear hK K;revert hF;refine zrc 2 [1, 4, 4, 4] [6, 7, 8, 9, 10] fun a hF => ?_;refine seq_one ?_;revert hF;refine qe0 fun a hF => ?_
  obtain ⟨wa2, wb2, bx2, bp2, e1, e2, e3, e4, hSV, hSV2, HN⟩ := got_new (sc := 0) (B := 0) (pc := 0) HPS.out.1 HPS.out.2
  rw [e1]
  rw [← e2] at hF
  clear e1
  refine seq_one ?_;revert hF;refine qe0 fun a hF => ?_
  try rw [e3]
  rw [← e4] at hF
  clear e2 e3 e4
  refine seq_one ?_;refine op_storev rfl rfl hF rfl rfl rfl rfl hSV ?_;clear hF;refine fun a hF => ?_
  clear hSV
  have hSV := hSV2
  clear hSV2
  refine seq_one ?_;refine op_storev rfl rfl hF rfl rfl rfl rfl hSV ?_;clear hF;refine fun a hF => ?_
  clear hSV
  have HB := Lib.hid (HB.out.trans (HN.out.1.mono HB.out.size))
  have HP := Lib.hid (HP.out.below HN.out.1)
  have HG1 := Lib.hid (HG1.out.below HN.out.1)
  have HG2 := Lib.hid HN.out.2
  clear HN HPS
  generalize (wb2.setRow bx2 _).setRow bp2 _ = wz2 at *
  revert hF;refine zre 10 [2] [3, 4, 5, 6, 7, 8, 9] fun a hF => ?_;refine hK _ _ ?_;clear hK;refine wp_seq_k (fun K hK => ?_)
  have x0 := boxed_cell (j := 0) HG1.out.x rfl
  have x1 := boxed_cell (j := 1) HG1.out.x rfl
  have y0 := boxed_cell (j := 0) HG1.out.y rfl
  have x0' := boxed_cell (j := 0) HG2.out.x rfl
  have x1' := boxed_cell (j := 1) HG2.out.x rfl
  have y0' := boxed_cell (j := 0) HG2.out.y rfl
  revert hF;refine zrp [1, 1, 1, 1, 5, 5, 1, 4, 4] [9, 10, 11, 12, 13, 14, 15, 16] fun a hF => ?_;revert hF;refine zos fun K hK => ?_
  refine (same_any wz2 _ _ _ _ _ _ _ _ _ _ HG1.out.pairs HG2.out.pairs (by omega) (by omega)).mono ?_
  rintro e w9 ⟨q, rfl, hb, hq⟩
  obtain rfl : q = true := hq.mpr ⟨rfl, rfl⟩
  clear hq x0 x1 y0 x0' x1' y0'
  have HB := Lib.hid (HB.out.trans (hb.mono HB.out.size))
  have HG1 := Lib.hid (HG1.out.below hb)
  have HG2 := Lib.hid (HG2.out.below hb)
  clear hb
  have y0 := boxed_cell (j := 0) HG1.out.y rfl
  have y0' := boxed_cell (j := 0) HG2.out.y rfl
  refine hK _ _ (fun a hF => ?_);clear hK K;revert hF;refine zrc 10 [5, 1, 4, 4] [14, 15, 16] fun a hF => ?_;revert hF;refine zos fun K hK => ?_
  refine (sameproofs_any w9 _ _ _ _ _ [] HG1.out.steps HG2.out.steps (by omega) (fun n hn => absurd hn (Nat.not_lt_zero _))).mono ?_
  rintro e w10 ⟨rfl, hb⟩
  clear y0 y0'
  refine hK _ _ (fun a hF => ?_);clear hK K;revert hF;refine zre 15 [5, 2] [2] fun a hF => ?_;refine hK _ _ ?_;clear hK;refine wp_ret ?_;(try simp only [then_ret, block_ret, goto_ret]);revert hF;refine zq ?_
  exact ⟨rfl, HB.out.trans (hb.mono HB.out.size)⟩
 ·
  have HV := Lib.hid hv
  clear hv
  have HTL : Hid ((stpF G (packF single G G.length 0 (R.map run0)) G.length 0 (R.map run0) 0 0).length ≤ 99999) := by
   refine Nat.le_trans (stp_cap ..) ?_
   rw [List.length_map]
   exact stp_less (by omega) hm5
  have HKD : Hid (∀ n, n < (stpF G (packF single G G.length 0 (R.map run0)) G.length 0 (R.map run0) 0 0).length → (stepAt (stpF G (packF single G G.length 0 (R.map run0)) G.length 0 (R.map run0) 0 0) n).kids.length ≤ 100000) := fun n hn => by
   have := stp_kidsAt hn
   rw [List.length_map] at this
   omega
  have HRG : Hid (∀ wx, Ints wx ra R.length R → Pairs wx ga G.length G → Calls Tryz.prog 12 #[.agg #[.slice ra R.length c, .slice ga G.length d, .bool single]] wx fun e w' => ∃ sa sc pa pc, e = .returned (.tuple #[.agg #[.slice sa G.length sc, .int .i64 (packF single G G.length 0 (R.map run0))], .agg #[.slice pa (stpF G (packF single G G.length 0 (R.map run0)) G.length 0 (R.map run0) 0 0).length pc], .int .i64 0]) ∧ Below wx.heap.size wx w' ∧ Pairs w' sa G.length (solF single R G G.length 0 (R.map run0) (packF single G G.length 0 (R.map run0))) ∧ Steps w' pa (stpF G (packF single G G.length 0 (R.map run0)) G.length 0 (R.map run0) 0 0).length (stpF G (packF single G G.length 0 (R.map run0)) G.length 0 (R.map run0) 0 0)) := fun wx h1 h2 =>
   rsolve_good wx ra ga c d single R G (by omega) (by omega) h1 h2 HV.out (by omega) (by omega) hmd hc HTL.out
  refine wp_seq_k (fun K hK => ?_)
  have p0 := boxed_cell (j := 0) HP.out.box rfl
  have p1 := boxed_cell (j := 1) HP.out.box rfl
  have p2 := boxed_cell (j := 2) HP.out.box rfl
  revert hF;refine zrp [4] [1, 2, 3, 4, 5, 6, 7, 8, 9, 10] fun a hF => ?_;revert hF;refine zos fun K hK => ?_
  refine (solve_good w4 ra ga c G.length d single R G (by omega) (by omega) hmd HP.out.runs HP.out.groups HV.out HP.out.kit).mono ?_
  rintro e w5 hgd
  clear p0 p1 p2
  obtain ⟨sa, sc, pa, pc, rfl, hb, hp, hst⟩ := good_ok hgd rfl rfl rfl rfl (Nat.le_trans HTL.out (by omega))
  clear hgd
  generalize stpF G (packF single G G.length 0 (R.map run0)) G.length 0 (R.map run0) 0 0 = T at *
  generalize solF single R G G.length 0 (R.map run0) (packF single G G.length 0 (R.map run0)) = S at *
  generalize packF single G G.length 0 (R.map run0) = B at *
  have HB := Lib.hid (HB.out.trans (hb.mono HB.out.size))
  have HP := Lib.hid (HP.out.below hb)
  have HPS := Lib.hid (And.intro hp hst)
  clear hb hp hst
  refine hK _ _ (fun a hF => ?_);clear hK K;revert hF;refine zrc 2 [1, 4, 4, 4] [6, 7, 8, 9, 10] fun a hF => ?_;refine seq_one ?_;revert hF;refine qe0 fun a hF => ?_
  obtain ⟨wa1, wb1, bx1, bp1, e1, e2, e3, e4, hSV, hSV2, HN⟩ := got_new (sc := sc) (B := B) (pc := pc) HPS.out.1 HPS.out.2
  rw [e1]
  rw [← e2] at hF
  clear e1
  refine seq_one ?_;revert hF;refine qe0 fun a hF => ?_
  try rw [e3]
  rw [← e4] at hF
  clear e2 e3 e4
  refine seq_one ?_;refine op_storev rfl rfl hF rfl rfl rfl rfl hSV ?_;clear hF;refine fun a hF => ?_
  clear hSV
  have hSV := hSV2
  clear hSV2
  refine seq_one ?_;refine op_storev rfl rfl hF rfl rfl rfl rfl hSV ?_;clear hF;refine fun a hF => ?_
  clear hSV
  have HB := Lib.hid (HB.out.trans (HN.out.1.mono HB.out.size))
  have HP := Lib.hid (HP.out.below HN.out.1)
  have HG1 := Lib.hid HN.out.2
  clear HN HPS
  generalize (wb1.setRow bx1 _).setRow bp1 _ = wz1 at *
  revert hF;refine zre 10 [2] [1, 3, 4, 5, 6] fun a hF => ?_;refine hK _ _ ?_;clear hK;refine wp_seq_k (fun K hK => ?_)
  have p0 := boxed_cell (j := 0) HP.out.box rfl
  have p1 := boxed_cell (j := 1) HP.out.box rfl
  have p2 := boxed_cell (j := 2) HP.out.box rfl
  revert hF;refine zrp [4] [1, 2, 3, 4, 5, 6, 7, 8, 9, 10] fun a hF => ?_;revert hF;refine zos fun K hK => ?_
  refine (HRG.out wz1 HP.out.runs HP.out.groups).mono ?_
  rintro e w6 ⟨sa', sc', pa', pc', rfl, hb, hp, hst⟩
  have HB := Lib.hid (HB.out.trans (hb.mono HB.out.size))
  have HP := Lib.hid (HP.out.below hb)
  have HG1 := Lib.hid (HG1.out.below hb)
  have HPS := Lib.hid (And.intro hp hst)
  clear hb hp hst
  clear p0 p1 p2
  refine hK _ _ (fun a hF => ?_);clear hK K;revert hF;refine zrc 2 [1, 4, 4, 4] [6, 7, 8, 9, 10] fun a hF => ?_;refine seq_one ?_;revert hF;refine qe0 fun a hF => ?_
  obtain ⟨wa2, wb2, bx2, bp2, e1, e2, e3, e4, hSV, hSV2, HN⟩ := got_new (sc := sc') (B := B) (pc := pc') HPS.out.1 HPS.out.2
  rw [e1]
  rw [← e2] at hF
  clear e1
  refine seq_one ?_;revert hF;refine qe0 fun a hF => ?_
  try rw [e3]
  rw [← e4] at hF
  clear e2 e3 e4
  refine seq_one ?_;refine op_storev rfl rfl hF rfl rfl rfl rfl hSV ?_;clear hF;refine fun a hF => ?_
  clear hSV
  have hSV := hSV2
  clear hSV2
  refine seq_one ?_;refine op_storev rfl rfl hF rfl rfl rfl rfl hSV ?_;clear hF;refine fun a hF => ?_
  clear hSV
  have HB := Lib.hid (HB.out.trans (HN.out.1.mono HB.out.size))
  have HP := Lib.hid (HP.out.below HN.out.1)
  have HG1 := Lib.hid (HG1.out.below HN.out.1)
  have HG2 := Lib.hid HN.out.2
  clear HN HPS
  generalize (wb2.setRow bx2 _).setRow bp2 _ = wz2 at *
  revert hF;refine zre 10 [2] [3, 4, 5, 6, 7, 8, 9] fun a hF => ?_;refine hK _ _ ?_;clear hK;refine wp_seq_k (fun K hK => ?_)
  have x0 := boxed_cell (j := 0) HG1.out.x rfl
  have x1 := boxed_cell (j := 1) HG1.out.x rfl
  have y0 := boxed_cell (j := 0) HG1.out.y rfl
  have x0' := boxed_cell (j := 0) HG2.out.x rfl
  have x1' := boxed_cell (j := 1) HG2.out.x rfl
  have y0' := boxed_cell (j := 0) HG2.out.y rfl
  revert hF;refine zrp [1, 1, 1, 1, 5, 5, 1, 4, 4] [9, 10, 11, 12, 13, 14, 15, 16] fun a hF => ?_;revert hF;refine zos fun K hK => ?_
  refine (same_any wz2 _ _ _ _ _ _ _ _ _ _ HG1.out.pairs HG2.out.pairs (by omega) (by omega)).mono ?_
  rintro e w9 ⟨q, rfl, hb, hq⟩
  obtain rfl : q = true := hq.mpr ⟨rfl, rfl⟩
  clear hq x0 x1 y0 x0' x1' y0'
  have HB := Lib.hid (HB.out.trans (hb.mono HB.out.size))
  have HG1 := Lib.hid (HG1.out.below hb)
  have HG2 := Lib.hid (HG2.out.below hb)
  clear hb
  have y0 := boxed_cell (j := 0) HG1.out.y rfl
  have y0' := boxed_cell (j := 0) HG2.out.y rfl
  refine hK _ _ (fun a hF => ?_);clear hK K;revert hF;refine zrc 10 [5, 1, 4, 4] [14, 15, 16] fun a hF => ?_;revert hF;refine zos fun K hK => ?_
  refine (sameproofs_any w9 _ _ _ _ _ T HG1.out.steps HG2.out.steps (Nat.le_trans HTL.out (by omega)) HKD.out).mono ?_
  rintro e w10 ⟨rfl, hb⟩
  clear y0 y0'
  refine hK _ _ (fun a hF => ?_);clear hK K;revert hF;refine zre 15 [5, 2] [2] fun a hF => ?_;refine hK _ _ ?_;clear hK;refine wp_ret ?_;(try simp only [then_ret, block_ret, goto_ret]);revert hF;refine zq ?_
  exact ⟨rfl, HB.out.trans (hb.mono HB.out.size)⟩
end Go.Proofs.YthabgljdndbphaaGreatDoor
