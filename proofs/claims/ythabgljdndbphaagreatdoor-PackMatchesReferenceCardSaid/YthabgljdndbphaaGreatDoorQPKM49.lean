/- foyerref23.work.prove: the walk. -/
import Derived.Test.YthabgljdndbphaaGreatDoorQPKM42
import Derived.Test.YthabgljdndbphaaGreatDoorQPKM43
import Derived.Test.YthabgljdndbphaaGreatDoorQPKM44
import Derived.Test.YthabgljdndbphaaGreatDoorQPKM48

set_option linter.unusedVariables false
set_option linter.unusedSimpArgs false
namespace Go.Proofs.YthabgljdndbphaaGreatDoor
open Go.RowKit Go.IntWalk Go.Maps Go.WideMaps
set_option linter.unusedSimpArgs false
set_option linter.unusedVariables false

theorem ints_rcsM {w : World} {ra : Option Addr} {n c : Nat} {R : List Int} (h : Ints w ra n R) (hc : ra = none → c = 0) : Rcs IntE w (.slice ra n c) R := by
 obtain rfl := h.1
 exact ints_rcs h hc
theorem recs_ints' {w : World} {ra : Option Addr} {n : Nat} {R : List Int} (h : Recs IntE w ra n R) : Ints w ra n R := recs_ints h
theorem bool_type {w : World} {g : Nat} {D : List Bool} (h : BoolRow w g 4 D) : ∃ arr, w.heap[g]? = some (.cells arr 4 (0, 0)) := let ⟨arr, e, _⟩ := h; ⟨arr, e⟩
theorem bool_below {w w' : World} {g : Nat} {T : TypeId} {D : List Bool} (h : BoolRow w g T D) (hb : Below w.heap.size w w') : BoolRow w' g T D := h.of_heap (hb.block _ h.lt)
theorem bool_keep {S : TypeId → Prop} {w w' : World} {g : Nat} {D : List Bool} (h : BoolRow w g 4 D) (ht : TUpd S w w') (hS : ¬ S 4) : BoolRow w' g 4 D := by
 obtain ⟨arr, e⟩ := bool_type h
 exact h.of_heap ((ht.keep e hS).trans e.symm)
theorem run0_maps (R : List Int) : (R.map run0).map (·.1) = R ∧ (R.map run0).map (·.2) = List.replicate R.length false := by
 refine ⟨?_, ?_⟩
 ·
  rw [List.map_map]
  show R.map (fun x => x) = R
  simp
 ·
  rw [List.map_map]
  show R.map (fun _ => false) = _
  exact List.map_const' ..
/-- One kid: its choice, its steps. -/
theorem kid_at {R C : List Int} {L : List (Int × Bool)} {G : List (Int × Int)} {gain val kv : Int} {single : Bool} {k g base i : Nat} (hkv : kv = if i = R.length then -1 else (i : Int)) (hC : C.length = g) (hL : L = stL R G (ix C) g) (hg : gain = valS G (dec (ix C) g)) (hl : L.length = R.length) (hi : i ≤ R.length)
  (hcr : ∀ j, j < g → -1 ≤ ix C j ∧ ix C j < R.length) (hmo : MostP single G val (k + 1) g L gain) (hgs : 0 ≤ gs G g ∧ 0 ≤ gs G g * gv G g) (hnn : L.findIdx? negP = none) :
  kidsU G val k g L gain base (i + 1) = ((kidsU G val k g L gain base i).1 ++ stpF G val k (g + 1) (stL R G (ix (C ++ [kv])) (g + 1)) (valS G (dec (ix (C ++ [kv])) (g + 1))) (base + 1 + (kidsU G val k g L gain base i).1.length), (kidsU G val k g L gain base i).2 ++ [((base + 1 + (kidsU G val k g L gain base i).1.length : Nat) : Int)]) ∧
   (-1 ≤ kv ∧ kv < R.length) ∧ (∀ j, j < g + 1 → -1 ≤ ix (C ++ [kv]) j ∧ ix (C ++ [kv]) j < R.length) ∧ MostP single G val k (g + 1) (stL R G (ix (C ++ [kv])) (g + 1)) (valS G (dec (ix (C ++ [kv])) (g + 1))) := by
 subst hC
 have hk : -1 ≤ kv ∧ kv < R.length := by rw [hkv]; split <;> omega
 refine ⟨?_, hk, fun j hj => ?_, ?_⟩
 ·
  by_cases e : i = R.length
  ·
   rw [if_pos e] at hkv
   subst hkv
   rw [stL_out, val_out_snoc, ← hL, ← hg, e, ← hl, kidsU_none]
  ·
   rw [if_neg e] at hkv
   subst hkv
   rw [stL_sit, val_sit_snoc, ← hL, ← hg, kidsU_run (by omega)]
 ·
  by_cases e : j = C.length
  ·
   subst e; rw [ix_snoc_at]; exact hk
  ·
   rw [ix_snoc_lt (by omega)]; exact hcr j (by omega)
 ·
  by_cases e : i = R.length
  ·
   rw [if_pos e] at hkv
   subst hkv
   rw [stL_out, val_out_snoc, ← hL, ← hg]
   exact hmo.out
  ·
   rw [if_neg e] at hkv
   subst hkv
   rw [stL_sit, val_sit_snoc, ← hL, ← hg]
   exact hmo.sit hgs hnn (by omega)
theorem BoolRow.new {w w' : World} {g : Nat} {T : TypeId} {D : List Bool} {b j : Nat} {v : Value} (h : BoolRow w g T D) (hb : g ≠ b) : BoolRow (w.setCell ⟨b, j, none⟩ v) g T D := h.of_heap (Below.heap_setCell _ _ _ _ hb)
set_option maxRecDepth 100000 in
set_option maxHeartbeats 64000000 in
theorem wprove_any (wI : World) (A : PA) (R : List Int) (hv : validS R A.G = true) (hR : Ints wI A.ra A.rn R) (hG : Pairs wI A.ga A.m A.G) (hm : A.m ≤ 8) (hn : R.length ≤ 40) (hgc : A.m ≤ A.gc) (hrc : A.ra = none → A.rc = 0) (hval : 0 ≤ A.val ∧ A.val ≤ 1000000000) :
  ∀ (k g : Nat) (C : List Int) (w : World) (ca : Option Addr) (cc : Nat) (T : List StepT) (X : Nat → Prop), g + k = A.m → (∀ i, i < g → -1 ≤ ix C i ∧ ix C i < R.length) → OwnRecs IntE w wI.heap.size 3 ca g C → (ca = none → cc = 0) → WrkM wI w A T X → (∀ b, X b → b < w.heap.size) →
   MostP A.single A.G A.val k g (stL R A.G (ix C) g) (valS A.G (dec (ix C) g)) → T.length + (stpF A.G A.val k g (stL R A.G (ix C) g) (valS A.G (dec (ix C) g)) T.length).length ≤ 99999 →
  Calls Tryz.prog 29 #[.pointer (some ⟨A.wb, 0, none⟩), .slice ca g cc] w (WMade wI w A X T (stpF A.G A.val k g (stL R A.G (ix C) g) (valS A.G (dec (ix C) g)) T.length) T.length) := by
 intro k
 induction k with
 | zero =>
  intro g C w ca cc T X hgk hcr hC hcc hM hX hmost hT
  have HV := Lib.hid (validS_parts hv).2.2
  have HVS := Lib.hid hv
  have HRG := Lib.hid (rooms_of hv)
  have HGL : Hid (A.G.length = A.m) := hG.1
  have HRL : Hid (A.rn = R.length) := hR.1.symm
  have HRP : Hid (∀ wx, Below wI.heap.size wI wx → Ints wx A.ra R.length R) := fun wx hb => by
   have := hR.below hb
   rw [← hR.1] at this
   exact this
  have HGP : Hid (∀ wx, Below w.heap.size w wx → Pairs wx A.ga A.m A.G) := fun wx hb => (hG.below hM.below).below hb
  have HRW : Hid (Ints w A.ra R.length R) := HRP.out w hM.below
  have HCM : Hid (∀ j, -1 ≤ ix C j) := fun j => by
   by_cases e : j < g
   ·
    exact (hcr j e).1
   ·
    have : ix C j = 0 := by
     unfold ix
     simp [List.getD_eq_getElem?_getD, List.getElem?_eq_none (show C.length ≤ j by rw [hC.1]; omega)]
    omega
  have HCR := Lib.hid hcr
  have HC0 := Lib.hid hC
  have HCI : Hid (Ints w ca g C) := recs_ints' hC.recs
  have HM := Lib.hid hM
  have HX := Lib.hid hX
  have HMO := Lib.hid hmost
  have HSZ : Hid (wI.heap.size ≤ w.heap.size) := hM.below.size
  obtain ⟨la0, c00, hbx0⟩ := hM.openS
  have HWB := Lib.hid hbx0
  clear hcr hC hM hX hmost hbx0
  refine enter_fr (N := 251) [.pointer (some ⟨A.wb, 0, none⟩), .slice ca g cc] (Tryz.func29) rfl Tryz.ntmps29 (by rfl) (fun a hF => ?_);replace hF := hF.kp [0, 1] rfl;revert hF;refine zrs [2] [0, 1] fun a hF => ?_
  have b4 := boxed_cell (j := 4) HWB.out rfl
  revert hF;refine zrs [1, 4, 4, 4, 4, 2] [0, 1, 5] fun a hF => ?_
  clear b4
  have hsp : 1 ≤ (stpF A.G A.val 0 g (stL R A.G (ix C) g) (valS A.G (dec (ix C) g)) T.length).length := stp_pos
  have hq : ¬ (100000 : Int) ≤ (T.length : Nat) := by omega
  have hq' : decide ((100000 : Int) ≤ (T.length : Int)) = false := decide_eq_false hq
  refine wp_seq_k (fun K hK => ?_);revert hF;refine zrs [1, 4] [0, 1, 5, 23] fun a hF => ?_
  clear hq hq' hsp
  refine cond_no hF rfl ?_
  refine wp_skip ?_
  refine hK _ _ ?_;clear hK
  -- rooms
  have A0 := Lib.hid (AS.start (E := IntE) (T := 3) (a := 0) w.heap.size w (Nat.le_refl _))
  have b0 := boxed_cell (j := 0) HWB.out rfl
  refine wp_seq_k (fun K hK => ?_);refine region_seq (l := [0, 1, 2, 3, 4, 5, 6, 7]) (by kernel_rfl) ?_;refine seq_one ?_;revert hF;refine qe0 fun a hF => ?_
  have A1 := Lib.hid A0.out.lit
  clear A0
  obtain ⟨g0, hg0⟩ : ∃ x, x = w.heap.size := ⟨_, rfl⟩
  have A1 : Hid (AS IntE 3 w w.heap.size 0 (w.alloc (.cells #[] 3)) (some (.slice (some ⟨g0, 0, none⟩) 0 0, [])) none) := by rw [hg0]; exact A1.out
  generalize w.alloc (.cells #[] 3) = w1 at *
  rw [← hg0] at hF
  clear hg0
  have b0 := boxed_cell (j := 0) ((A1.out.below.block A.wb (lt_of_block HWB.out)).trans HWB.out) rfl
  obtain ⟨rla, rlc, w2, hAPP, hA2⟩ := A1.out.app 22 22 (u := .slice A.ra A.rn A.rc) Tryz.underlying22 info_int rfl (by decide) (by rw [HRL.out]; exact ints_rcsM (HRW.out.below A1.out.below) hrc) (D' := R) rfl (by omega)
  have A2 := Lib.hid hA2
  clear hA2 A1
  revert hF;refine zrc 1 [1, 4, 4, 4, 4] [6, 7] fun a hF => ?_;refine seq_one ?_;refine op_append rfl rfl rfl rfl rfl hF rfl rfl rfl hAPP (fun a hF => ?_);clear hAPP;revert hF;refine zre 7 [2] [0, 1, 5, 6] fun a hF => ?_
  clear b0
  refine hK _ _ ?_;clear hK
  -- sits
  obtain ⟨arr, hs, hz, hmk⟩ := make_bools R.length (by omega)
  refine wp_seq_k (fun K hK => ?_);revert hF;refine zrp [1, 4] [2, 3] fun a hF => ?_;refine seq_one ?_;revert hF;refine qe2 fun a hF => ?_
  have HU : Hid (BoolRow (w2.alloc (.cells arr 4)) w2.heap.size 4 (List.replicate R.length false)) := BoolRow.made rfl hs hz
  have b3 := Joins.below_alloc1 w2 (.cells arr 4)
  have hs2 : w.heap.size ≤ w2.heap.size := A2.out.below.size
  have HS0 : Hid (Below w.heap.size w (w2.alloc (.cells arr 4)) ∧ (w2.alloc (.cells arr 4)).ownsRow w.heap.size 3 1 (.slice rla R.length rlc) R.length (flat IntE ((stL R A.G (ix C) 0).map (·.1))) ∧ BoolRow (w2.alloc (.cells arr 4)) w2.heap.size 4 ((stL R A.G (ix C) 0).map (·.2)) ∧ w.heap.size ≤ w2.heap.size) := by
   obtain ⟨e1, e2⟩ := run0_maps R
   refine ⟨A2.out.below.trans (b3.mono hs2), ?_, ?_, hs2⟩
   ·
    show _ = _ ∧ _
    rw [show (stL R A.G (ix C) 0).map (·.1) = R from e1]
    exact row_of_heap (A2.out.own _ _ rfl) fun b hb => b3.block b ((A2.out.own _ _ rfl).lt b hb).2
   ·
    rw [show (stL R A.G (ix C) 0).map (·.2) = List.replicate R.length false from e2]
    exact HU.out
  clear hmk hs hz HU b3 hs2 A2
  generalize w2.alloc (.cells arr 4) = w3 at *
  generalize w2.heap.size = gb at *
  revert hF;refine zre 3 [2] [0, 1, 5, 6, 7] fun a hF => ?_;refine hK _ _ ?_;clear hK;revert hF;refine zrs [2] [0, 1, 5, 6, 7, 8] fun a hF => ?_
  refine seq_cut (fun a' w' => FrF 251 [] [(0, .pointer (some ⟨A.wb, 0, none⟩)), (1, .slice ca g cc), (5, .int .i64 (T.length : Nat)), (6, .slice rla R.length rlc), (7, .slice (some ⟨gb, 0, none⟩) R.length R.length), (8, .int .i64 (valS A.G (dec (ix C) g)))] a' ∧ Hid (Below w.heap.size w w' ∧ w'.ownsRow w.heap.size 3 1 (.slice rla R.length rlc) R.length (flat IntE ((stL R A.G (ix C) g).map (·.1))) ∧ BoolRow w' gb 4 ((stL R A.G (ix C) g).map (·.2)) ∧ w.heap.size ≤ gb)) (fun KAi hKAi => ?_) ?_
  ·
   skip
   revert hF;refine zrs [2] [0, 1, 5, 6, 7, 8, 9] fun a hF => ?_
   refine wp_block ?_
   refine loop_fr (fun qi a' w' => ∃ i : Nat, i + qi = g ∧ FrF 251 [] [(0, .pointer (some ⟨A.wb, 0, none⟩)), (1, .slice ca g cc), (5, .int .i64 (T.length : Nat)), (6, .slice rla R.length rlc), (7, .slice (some ⟨gb, 0, none⟩) R.length R.length), (8, .int .i64 (valS A.G (dec (ix C) i))), (9, .int .i64 i)] a' ∧ Hid (Below w.heap.size w w' ∧ w'.ownsRow w.heap.size 3 1 (.slice rla R.length rlc) R.length (flat IntE ((stL R A.G (ix C) i).map (·.1))) ∧ BoolRow w' gb 4 ((stL R A.G (ix C) i).map (·.2)) ∧ w.heap.size ≤ gb)) (g) ⟨0, by omega, hF, HS0⟩ ?_
   clear hF HS0
   rintro rki a wr ⟨i, hiki, hF, HS⟩ KBi hKBi
   refine wp_seq_k (fun K hK => ?_)
   by_cases hlt : i < g
   rotate_left
   ·
    have hlti : ¬ (i : Int) < (g : Nat) := by omega
    revert hF;refine zrs [1, 1, 4, 5] [0, 1, 5, 6, 7, 8, 9, 40] fun a hF => ?_
    refine cond_no hF rfl ?_
    refine wp_exit ?_
    have hie : i = g := by omega
    rw [hie] at hF HS
    exact hKAi _ _ ⟨hF.sub ⟨rfl, rfl, rfl, rfl, rfl, rfl, trivial⟩, HS⟩
   have hlti : (i : Int) < (g : Nat) := by omega
   revert hF;refine zrs [1, 1, 4, 5] [0, 1, 5, 6, 7, 8, 9, 40] fun a hF => ?_
   refine cond_yes hF rfl ?_
   refine wp_skip ?_
   refine hK _ _ ?_;clear hK;replace hF := hF.kp [0, 1, 5, 6, 7, 8, 9] rfl
   clear hKAi
   refine seq_cut (fun a' w' => FrF 251 [] [(0, .pointer (some ⟨A.wb, 0, none⟩)), (1, .slice ca g cc), (5, .int .i64 (T.length : Nat)), (6, .slice rla R.length rlc), (7, .slice (some ⟨gb, 0, none⟩) R.length R.length), (8, .int .i64 (valS A.G (dec (ix C) (i + 1)))), (9, .int .i64 i)] a' ∧ Hid (Below w.heap.size w w' ∧ w'.ownsRow w.heap.size 3 1 (.slice rla R.length rlc) R.length (flat IntE ((stL R A.G (ix C) (i + 1)).map (·.1))) ∧ BoolRow w' gb 4 ((stL R A.G (ix C) (i + 1)).map (·.2)) ∧ w.heap.size ≤ gb)) (fun KCi hKCi => ?_) ?_
   rotate_left
   ·
    clear hF HS
    rintro a w' ⟨hF, HS⟩
    have hws : IntKind.i64.wrap ((i : Int) + 1) = ((i + 1 : Nat) : Int) := wrap_succ (by omega)
    revert hF;refine zrg [1, 4, 2] [0, 1, 5, 6, 7, 8, 9] fun a hF => ?_
    exact hKBi (g - (i + 1)) _ _ (by omega) ⟨i + 1, by omega, hF, HS⟩
   clear hKBi hiki
   refine wp_block ?_
   have hii : (i : Int) < (g : Nat) := by omega
   have hci := HCR.out i hlt
   have hgm : i < A.G.length := by rw [HGL.out]; omega
   have hgv := HV.out i hgm
   have hil : i < A.m := by omega
   have hil' : (i : Int) < (A.m : Nat) := by omega
   have hsl : (stL R A.G (ix C) i).length = R.length := stL_len i
   have hlow := stL_low (c := ix C) HV.out HRG.out i (by omega)
   have hvl := val_le (c := ix C) HV.out (fun j _ => HCM.out j) i (by omega)
   have hmul : 0 ≤ gs A.G i * gv A.G i ∧ gs A.G i * gv A.G i ≤ 12000000 := ⟨Int.mul_nonneg (by omega) (by omega), Int.le_trans (Int.mul_le_mul hgv.1.2 hgv.2.2 hgv.2.1 (by omega)) (by omega)⟩
   obtain ⟨bc, oc, hca, c0⟩ := (HCI.out.below HS.out.1).2 i hlt
   have HCA := Lib.hid hca
   rw [hca] at hF
   clear hca
   by_cases hneg : ix C i < 0
   ·
    have hq : decide (0 ≤ ix C i) = false := decide_eq_false (by omega)
    have hq' : ¬ 0 ≤ ix C i := by omega
    have hst := stL_none (R := R) (G := A.G) hneg
    have hvo := val_out' (G := A.G) (c := ix C) (g := i) (by omega)
    rw [hst, hvo] at hKCi
    clear hst hvo hlow hneg
    revert hF;refine zrs [1, 1, 5, 4, 4] [0, 1, 5, 6, 7, 8, 9, 47] fun a hF => ?_
    clear hq hq' c0
    refine cond_no hF rfl ?_
    refine wp_skip ?_
    rw [← HCA.out] at hF
    exact hKCi _ _ ⟨hF.sub ⟨rfl, rfl, rfl, rfl, rfl, rfl, rfl, trivial⟩, HS⟩
   obtain ⟨q, hqq⟩ : ∃ q : Nat, ix C i = (q : Int) := ⟨(ix C i).toNat, by omega⟩
   have hst := stL_next (R := R) (G := A.G) hqq
   have hvo := val_sit' (G := A.G) (c := ix C) (g := i) hqq
   rw [hst, hvo] at hKCi
   rw [hqq] at c0
   have hqn : q < R.length := by omega
   have hqn' : (q : Int) < (R.length : Nat) := by omega
   have HQQ := Lib.hid hqq
   obtain ⟨L1, hL1⟩ : ∃ x, x = stL R A.G (ix C) i := ⟨_, rfl⟩
   rw [← hL1] at HS hKCi hlow hsl
   have hq1 : q < L1.length := by omega
   obtain ⟨m1, m2⟩ := sit_maps L1 hq1 (gs A.G i)
   rw [m1, m2] at hKCi
   have hix : ix (L1.map (·.1)) q = L1[q].1 := by
    unfold ix
    simp [hq1]
   have hxl := hlow L1[q] (List.getElem_mem hq1)
   rw [← hix] at hxl
   clear hst hvo hL1 hneg hqq m1 m2 hix hlow
   have hq : decide ((0 : Int) ≤ (q : Int)) = true := by simp
   have hq' : (0 : Int) ≤ (q : Int) := by omega
   revert hF;refine zrs [1, 1, 5, 4, 4] [0, 1, 5, 6, 7, 8, 9, 47] fun a hF => ?_
   clear hq hq' c0
   refine cond_yes hF rfl ?_
   -- rooms[q] -= size
   have hbd := below_d (Below.refl wr.heap.size wr)
   have HBd := Lib.hid (HS.out.1.trans (hbd.mono HS.out.1.size))
   obtain ⟨g6, hr6, hg6, r0, f0, ⟨cur6, hcur6⟩, hset6⟩ := own_int_set (w := wr.drew) (q := q) (row_of_heap HS.out.2.1 fun _ _ => rfl) hqn
   have HR6 := Lib.hid hr6
   rw [hr6] at hF
   have HSB : Hid (BoolRow wr.drew gb 4 (L1.map (·.2)) ∧ w.heap.size ≤ gb) := ⟨HS.out.2.2.1, HS.out.2.2.2⟩
   have HSBC := Lib.hid HSB.out.1
   obtain ⟨bc', oc', hca', c0⟩ := (HCI.out.below HBd.out).2 i hlt
   obtain ⟨rfl, rfl⟩ : bc = bc' ∧ oc = oc' := by
    have := HCA.out.symm.trans hca'
    simpa using this
   clear hca'
   rw [HQQ.out] at c0
   obtain ⟨bg, og, hga, e0, e1⟩ := (HGP.out _ HBd.out).2 i hil
   have p1 := boxed_cell (j := 1) ((HBd.out.block A.wb (lt_of_block HWB.out)).trans HWB.out) rfl
   rw [hga] at p1
   obtain ⟨x, hx⟩ : ∃ x, x = ix (L1.map (·.1)) q := ⟨_, rfl⟩
   rw [← hx] at r0 hxl hKCi
   clear hx
   have hws : IntKind.i64.wrap (x - gs A.G i) = x - gs A.G i := wrap_in (by omega) (by omega)
   have hBf : Below w.heap.size w (wr.drew.setCell ⟨g6, q, none⟩ (.int .i64 (x - gs A.G i))) := HBd.out.setCell (by show _ ≤ g6; exact hg6) _
   have hbool : BoolRow (wr.drew.setCell ⟨g6, q, none⟩ (.int .i64 (x - gs A.G i))) gb 4 (L1.map (·.2)) := HSBC.out.of_heap (Below.heap_setCell _ _ _ _ (fun e => by
    obtain ⟨arr, hb⟩ := bool_type HSBC.out
    dsimp only at e
    rw [← e] at hcur6
    rw [hcur6] at hb
    cases hb))
   have HS4 : Hid (Below w.heap.size w (wr.drew.setCell ⟨g6, q, none⟩ (.int .i64 (x - gs A.G i))) ∧ (wr.drew.setCell ⟨g6, q, none⟩ (.int .i64 (x - gs A.G i))).ownsRow w.heap.size 3 1 (.slice rla R.length rlc) R.length (flat IntE ((L1.map (·.1)).set q (x - gs A.G i))) ∧ BoolRow (wr.drew.setCell ⟨g6, q, none⟩ (.int .i64 (x - gs A.G i))) gb 4 (L1.map (·.2)) ∧ w.heap.size ≤ gb) := ⟨hBf, hset6 _, hbool, HSB.out.2⟩
   clear hset6 hcur6 hBf hbool HSB HSBC hbd HS hga hr6 hg6
   refine wp_seq_k (fun K hK => ?_);refine region_any (by kernel_rfl) ?_;generalize wr.drew = wd at *;revert hF;refine zra (fuel := 1) [1, 33, 65, 106, 148, 170, 212, 225, 265, 297, 329, 372, 385, 426, 457, 500, 522, 554] [18] fun a hF => ?_;refine any_one (n := 18) (fuel := 0) (by kernel_rfl) ?_;revert hF;refine qu2 fun a hF => ?_
   clear r0 f0 c0 e0 e1 p1 hws
   refine any_end (by kernel_rfl) ?_;replace hF := hF.kp [0, 1, 5, 6, 7, 8, 9] rfl;refine hK _ _ ?_;clear hK
   rw [← HR6.out] at hF
   generalize wd.setCell ⟨g6, q, none⟩ (.int .i64 (x - gs A.G i)) = w4 at *
   -- sits[q] = true
   have s0 := HS4.out.2.2.1.cell q (by rw [List.length_map]; omega)
   have f0 := HS4.out.2.2.1.free q
   obtain ⟨bc', oc', hca', c0⟩ := (HCI.out.below HS4.out.1).2 i hlt
   obtain ⟨rfl, rfl⟩ : bc = bc' ∧ oc = oc' := by
    have := HCA.out.symm.trans hca'
    simpa using this
   clear hca'
   rw [HQQ.out] at c0
   obtain ⟨D6, hD6⟩ : ∃ y : List Int, y = (L1.map (·.1)).set q (x - gs A.G i) := ⟨_, rfl⟩
   rw [← hD6] at HS4 hKCi
   clear hD6
   have HS5 : Hid (Below w.heap.size w (w4.setCell ⟨gb, q, none⟩ (.bool true)) ∧ (w4.setCell ⟨gb, q, none⟩ (.bool true)).ownsRow w.heap.size 3 1 (.slice rla R.length rlc) R.length (flat IntE D6) ∧ BoolRow (w4.setCell ⟨gb, q, none⟩ (.bool true)) gb 4 ((L1.map (·.2)).set q true) ∧ w.heap.size ≤ gb) :=
    ⟨HS4.out.1.setCell (by show _ ≤ gb; exact HS4.out.2.2.2) _, by
     obtain ⟨arr, hb⟩ := bool_type HS4.out.2.2.1
     exact own_keepR HS4.out.2.1 (tupd_set (j := q) hb _) (by decide), HS4.out.2.2.1.set q (by rw [List.length_map]; omega) true, HS4.out.2.2.2⟩
   clear HS4
   refine wp_seq_k (fun K hK => ?_);revert hF;refine zrp [1, 1, 1, 5, 4, 5] [6] fun a hF => ?_;refine seq_one ?_;revert hF;refine qu1 fun a hF => ?_
   clear s0 f0 c0
   refine seq_end ?_;replace hF := hF.kp [0, 1, 5, 6, 7, 8, 9] rfl;refine hK _ _ ?_;clear hK
   generalize w4.setCell ⟨gb, q, none⟩ (.bool true) = w5 at *
   -- gain
   have hbd := below_d (Below.refl w5.heap.size w5)
   have HBd := Lib.hid (HS5.out.1.trans (hbd.mono HS5.out.1.size))
   have HS6 : Hid (Below w.heap.size w w5.drew ∧ w5.drew.ownsRow w.heap.size 3 1 (.slice rla R.length rlc) R.length (flat IntE D6) ∧ BoolRow w5.drew gb 4 ((L1.map (·.2)).set q true) ∧ w.heap.size ≤ gb) := ⟨HBd.out, row_of_heap HS5.out.2.1 fun _ _ => rfl, HS5.out.2.2.1, HS5.out.2.2.2⟩
   obtain ⟨bg, og, hga, e0, e1⟩ := (HGP.out _ HBd.out).2 i hil
   have p1 := boxed_cell (j := 1) ((HBd.out.block A.wb (lt_of_block HWB.out)).trans HWB.out) rfl
   rw [hga] at p1
   obtain ⟨vi, hvi⟩ : ∃ x, x = valS A.G (dec (ix C) i) := ⟨_, rfl⟩
   rw [← hvi] at hF hvl hKCi
   obtain ⟨b, hb⟩ : ∃ x, x = gs A.G i * gv A.G i := ⟨_, rfl⟩
   have hwm : IntKind.i64.wrap (gs A.G i * gv A.G i) = b := by
    rw [hb]
    exact wrap_in (by omega) (by omega)
   rw [← hb] at hmul hKCi
   have hws : IntKind.i64.wrap (vi + b) = vi + b := wrap_in (by omega) (by omega)
   clear hb hvi hbd HS5 hga
   refine region_any (by kernel_rfl) ?_;generalize w5.drew = wd5 at *;revert hF;refine zrb (fuel := 0) [1, 33, 73, 105, 137, 180, 193, 234, 265, 308, 321, 361, 393, 425, 468, 481, 522, 553, 596, 618, 650, 674] [0, 1, 5, 6, 7, 8, 9] fun a hF => ?_
   clear e0 e1 p1 hwm hws
   rw [← HCA.out] at hF
   exact hKCi _ _ ⟨hF.sub ⟨rfl, rfl, rfl, rfl, rfl, rfl, rfl, trivial⟩, HS6⟩
  clear hF HS0
  rintro a w7 ⟨hF, HS⟩
  -- the runs behind the decisions
  revert hF;refine zrs [2] [0, 1, 5, 6, 7, 8, 10] fun a hF => ?_
  obtain ⟨L, hL⟩ : ∃ x, x = stL R A.G (ix C) g := ⟨_, rfl⟩
  have HLE := Lib.hid hL
  have HLN : Hid (L.length = R.length) := by rw [hL]; exact stL_len g
  have HSU : Hid (sumL L ≤ 4000) := by
   rw [hL]
   exact Int.le_trans (stL_sum HV.out g (by rw [HGL.out]; omega) (fun j hj => (HCR.out j hj).2)) (runsOk_sum R 4000 (by omega) (validS_parts HVS.out).1).2.1
  have HLR : Hid (∀ r ∈ L, -12 * (g : Int) ≤ r.1 ∧ r.1 ≤ 4000) := by
   rw [hL]
   exact stL_low (c := ix C) HV.out HRG.out g (by rw [HGL.out]; omega)
  have hgn := val_le (c := ix C) HV.out (fun j _ => HCM.out j) g (by rw [HGL.out]; omega)
  obtain ⟨gain, hgain⟩ : ∃ x, x = valS A.G (dec (ix C) g) := ⟨_, rfl⟩
  have HGE := Lib.hid hgain
  rw [← hL] at HS hT HMO ⊢
  rw [← hgain] at hF hT HMO hgn ⊢
  clear hL hgain
  have HS0 := HS
  have HNG0 : Hid (∀ j (hj : j < L.length), j < 0 → ¬ L[j].1 < 0) := fun j _ h => absurd h (Nat.not_lt_zero _)
  clear HS
  refine seq_cut (fun a' w' => FrF 251 [] [(0, .pointer (some ⟨A.wb, 0, none⟩)), (1, .slice ca g cc), (5, .int .i64 (T.length : Nat)), (6, .slice rla R.length rlc), (7, .slice (some ⟨gb, 0, none⟩) R.length R.length), (8, .int .i64 gain), (10, .int .i64 (sumL (L.take R.length)))] a' ∧ Hid (Below w.heap.size w w' ∧ w'.ownsRow w.heap.size 3 1 (.slice rla R.length rlc) R.length (flat IntE (L.map (·.1))) ∧ BoolRow w' gb 4 (L.map (·.2)) ∧ w.heap.size ≤ gb) ∧ Hid (∀ j (hj : j < L.length), j < R.length → ¬ L[j].1 < 0)) (fun KAj hKAj => ?_) ?_
  ·
   skip
   revert hF;refine zrs [2] [0, 1, 5, 6, 7, 8, 10, 11] fun a hF => ?_
   refine wp_block ?_
   refine loop_fr (fun qj a' w' => ∃ i : Nat, i + qj = R.length ∧ FrF 251 [] [(0, .pointer (some ⟨A.wb, 0, none⟩)), (1, .slice ca g cc), (5, .int .i64 (T.length : Nat)), (6, .slice rla R.length rlc), (7, .slice (some ⟨gb, 0, none⟩) R.length R.length), (8, .int .i64 gain), (10, .int .i64 (sumL (L.take i))), (11, .int .i64 i)] a' ∧ Hid (Below w.heap.size w w' ∧ w'.ownsRow w.heap.size 3 1 (.slice rla R.length rlc) R.length (flat IntE (L.map (·.1))) ∧ BoolRow w' gb 4 (L.map (·.2)) ∧ w.heap.size ≤ gb) ∧ Hid (∀ j (hj : j < L.length), j < i → ¬ L[j].1 < 0)) (R.length) ⟨0, by omega, hF, HS0, HNG0⟩ ?_
   clear hF HS0  HNG0
   rintro rkj a wr ⟨i, hikj, hF, HS, HNG⟩ KBj hKBj
   refine wp_seq_k (fun K hK => ?_)
   by_cases hlt : i < R.length
   rotate_left
   ·
    have hlti : ¬ (i : Int) < (R.length : Nat) := by omega
    revert hF;refine zrs [1, 1, 4, 5] [0, 1, 5, 6, 7, 8, 10, 11, 96] fun a hF => ?_
    refine cond_no hF rfl ?_
    refine wp_exit ?_
    have hie : i = R.length := by omega
    rw [hie] at hF HNG
    exact hKAj _ _ ⟨hF.sub ⟨rfl, rfl, rfl, rfl, rfl, rfl, rfl, trivial⟩, HS, HNG⟩
   have hlti : (i : Int) < (R.length : Nat) := by omega
   revert hF;refine zrs [1, 1, 4, 5] [0, 1, 5, 6, 7, 8, 10, 11, 96] fun a hF => ?_
   refine cond_yes hF rfl ?_
   refine wp_skip ?_
   refine hK _ _ ?_;clear hK;replace hF := hF.kp [0, 1, 5, 6, 7, 8, 10, 11] rfl
   clear hKAj
   refine seq_cut (fun a' w' => FrF 251 [] [(0, .pointer (some ⟨A.wb, 0, none⟩)), (1, .slice ca g cc), (5, .int .i64 (T.length : Nat)), (6, .slice rla R.length rlc), (7, .slice (some ⟨gb, 0, none⟩) R.length R.length), (8, .int .i64 gain), (10, .int .i64 (sumL (L.take (i + 1)))), (11, .int .i64 i)] a' ∧ Hid (Below w.heap.size w w' ∧ w'.ownsRow w.heap.size 3 1 (.slice rla R.length rlc) R.length (flat IntE (L.map (·.1))) ∧ BoolRow w' gb 4 (L.map (·.2)) ∧ w.heap.size ≤ gb) ∧ Hid (∀ j (hj : j < L.length), j < (i + 1) → ¬ L[j].1 < 0)) (fun KCj hKCj => ?_) ?_
   rotate_left
   ·
    clear hF HS HNG
    rintro a w' ⟨hF, HS, HNG⟩
    have hws : IntKind.i64.wrap ((i : Int) + 1) = ((i + 1 : Nat) : Int) := wrap_succ (by omega)
    revert hF;refine zrg [1, 4, 2] [0, 1, 5, 6, 7, 8, 10, 11] fun a hF => ?_
    exact hKBj (R.length - (i + 1)) _ _ (by omega) ⟨i + 1, by omega, hF, HS, HNG⟩
   clear hKBj hikj
   refine wp_block ?_
   have hil : i < L.length := by rw [HLN.out]; exact hlt
   have hii : (i : Int) < (R.length : Nat) := by omega
   have hri := HLR.out L[i] (List.getElem_mem hil)
   have hsn := sum_next hil
   rw [hsn] at hKCj
   clear hsn
   have hsr := sum_range (fun r hr => (HLR.out r hr).2) i (by omega) HNG.out
   have HFN : Hid (L[i].1 < 0 → L.findIdx? negP = some i) := fun h => neg_some hil h HNG.out
   have HNX : Hid (¬ L[i].1 < 0 → ∀ j (hj : j < L.length), j < i + 1 → ¬ L[j].1 < 0) := fun h j hj hji => by
    by_cases e : j = i
    ·
     subst e; exact h
    ·
     exact HNG.out j hj (by omega)
   obtain ⟨g6, hr6, hg6, r0, f0, -, -⟩ := own_int_set (q := i) HS.out.2.1 hlt
   have HR6 := Lib.hid hr6
   rw [hr6] at hF
   have hix : ix (L.map (·.1)) i = L[i].1 := by
    unfold ix
    simp [hil]
   rw [hix] at r0
   obtain ⟨x, hx⟩ : ∃ r, r = L[i].1 := ⟨_, rfl⟩
   rw [← hx] at r0 hri HFN HNX hKCj
   obtain ⟨sm, hsm⟩ : ∃ x, x = sumL (L.take i) := ⟨_, rfl⟩
   rw [← hsm] at hF hKCj hsr
   clear hx hsm hr6 hg6 f0 hix
   refine wp_seq_k (fun K hK => ?_)
   by_cases hneg : x < 0
   ·
    have hq : decide (x < 0) = true := by simpa using hneg
    revert hF;refine zrs [1, 1, 5, 4, 4] [0, 1, 5, 6, 7, 8, 10, 11, 103] fun a hF => ?_
    clear hq r0
    refine cond_yes hF rfl ?_
    have hst : stpF A.G A.val 0 g L gain T.length = [⟨3, (i : Int), []⟩] := stp_neg (HFN.out hneg)
    have HMr := Lib.hid (HM.out.down HS.out.1)
    have HTr : Hid (TUpd WrkT w wr) := TUpd.of_below HS.out.1
    clear hKCj HS HNX HFN
    obtain ⟨la9, c9, hbx9, hAM⟩ := wadd_mem (k := 3) (g := (i : Int)) (gs := wr.heap.size) HMr.out (by omega)
    have HAM := Lib.hid hAM
    clear hAM
    have b4 := boxed_cell (j := 4) hbx9 rfl
    clear hbx9
    refine wp_seq_k (fun K hK => ?_);revert hF;refine zrp [1, 1, 4, 4, 4, 1, 4] [7, 8, 9, 10, 11] fun a hF => ?_;refine seq_one ?_;revert hF;refine qe1 fun a hF => ?_
    have hrc := recs_alloc StepE wr 71 [rawS (3) ((i : Int))] #[.int .i64 (3), .int .i64 ((i : Int)), .slice none 0 0] rfl
    have hba := Joins.below_alloc1 wr (.cells #[.int .i64 (3), .int .i64 ((i : Int)), .slice none 0 0] 71)
    obtain ⟨la8, c8, w2, hAPP, q4, f4, hP2, hT2, r4⟩ := HAM.out _ wr.heap.size hba hrc
    have HP2 := Lib.hid hP2
    have HT2 := Lib.hid hT2
    have R4 := Lib.hid r4
    clear hP2 hT2 hrc hba HAM r4
    refine seq_one ?_;refine op_append rfl rfl rfl rfl rfl hF rfl rfl rfl hAPP (fun a hF => ?_);clear hAPP;revert hF;refine zrc 9 [4, 4] [11] fun a hF => ?_;refine seq_one ?_;revert hF;refine qu2 fun a hF => ?_;refine seq_end ?_;replace hF := hF.kp [5] rfl
    clear q4 f4 b4
    generalize w2.setCell ⟨A.wb, 4, none⟩ (.slice la8 (T.length + 1) c8) = w3 at *
    refine hK _ _ ?_;clear hK;revert hF;refine zrs [1, 2] [4] fun a hF => ?_
    rw [hst]
    refine wp_ret ?_;(try simp only [then_ret, block_ret, goto_ret]);revert hF;refine zq ?_
    exact ⟨rfl, HP2.out, HTr.out.trans HT2.out⟩
   have hq : decide (x < 0) = false := by simpa using hneg
   revert hF;refine zrs [1, 1, 5, 4, 4] [0, 1, 5, 6, 7, 8, 10, 11, 103] fun a hF => ?_
   clear hq
   refine cond_no hF rfl ?_
   refine wp_skip ?_
   refine hK _ _ ?_;clear hK
   have hws : IntKind.i64.wrap (sm + x) = sm + x := wrap_in (by omega) (by omega)
   revert hF;refine zrg [1, 1, 1, 5, 4, 5, 2] [0, 1, 5, 6, 7, 8, 10, 11] fun a hF => ?_
   clear r0 hws
   rw [← HR6.out] at hF
   exact hKCj _ _ ⟨hF.sub ⟨rfl, rfl, rfl, rfl, rfl, rfl, rfl, rfl, trivial⟩, HS, HNX.out hneg⟩
  clear hF HS0  HNG0
  rintro a w8 ⟨hF, HS, HNG⟩
  have HNN : Hid (L.findIdx? negP = none) := neg_none fun j hj => HNG.out j hj (by rw [← HLN.out]; exact hj)
  have hsr := sum_range (fun r hr => (HLR.out r hr).2) L.length (Nat.le_refl _) (fun j hj h => HNG.out j hj (by rw [← HLN.out]; exact hj))
  have hts : L.take R.length = L := by rw [← HLN.out, List.take_length]
  rw [hts] at hF
  clear hts
  rw [List.take_length] at hsr
  have hLn := HLN.out
  clear HNG
  have HB8 := Lib.hid HS.out.1
  have HRB := Lib.hid HS.out.2
  clear HS
  obtain ⟨gd, hgd⟩ : ∃ gd, gd = gaD A.ga g A.gc := ⟨_, rfl⟩
  have HPD : Hid (∀ wx, Below w.heap.size w wx → Pairs wx gd (A.m - g) (A.G.drop g)) := fun wx hb => by
   rw [hgd]
   exact pairs_drop (HGP.out _ hb) hgc (by omega)
  have hsl : ∀ wx, (Instr.slice 23 (.slice A.ga A.m A.gc) (some (.int .i64 (g : Int))) none none).run Tryz.prog wx = .ok (.slice gd (A.m - g) (A.gc - g)) wx := fun wx => by
   rw [hgd]
   exact run_drop wx A.ga A.m A.gc g hgc (by omega)
  clear hgd
  have p1 := boxed_cell (j := 1) ((HB8.out.block A.wb (lt_of_block HWB.out)).trans HWB.out) rfl
  refine wp_seq_k (fun K hK => ?_);revert hF;refine zrp [1, 4, 4, 4, 4, 1, 4, 5, 4] [9, 10] fun a hF => ?_;refine seq_one ?_;revert hF;refine qe0 fun a hF => ?_
  obtain ⟨wa, gr, hwa, hgv, hSV, HTW⟩ := var_new w8 25 #[.slice none 0 0, .slice none 0 0, .bool false] #[.slice none 0 0, .slice gd (A.m - g) (A.gc - g), .bool false] (by kernel_rfl) rfl (by simp [Value.oneCell'])
  rw [hwa]
  rw [← hgv] at hF
  clear hwa hgv
  refine seq_one ?_;refine op_storev rfl rfl hF rfl rfl rfl rfl hSV ?_;clear hF;refine fun a hF => ?_
  clear hSV
  refine hK _ _ ?_;clear hK
  generalize wa.setRow gr #[.slice none 0 0, .slice gd (A.m - g) (A.gc - g), .bool false] = w9 at *
  clear p1 hsl
  have HB9 := Lib.hid (HB8.out.trans (HTW.out.1.mono HB8.out.size))
  have HRB9 : Hid (w9.ownsRow w.heap.size 3 1 (.slice rla R.length rlc) R.length (flat IntE (L.map (·.1))) ∧ BoolRow w9 gb 4 (L.map (·.2)) ∧ w.heap.size ≤ gb) := ⟨row_of_heap HRB.out.1 fun b hb => HTW.out.1.block b (HRB.out.1.lt b hb).2, bool_below HRB.out.2.1 HTW.out.1, HRB.out.2.2⟩
  have HRR : Hid (w9.heap[gr]? = some (.cells #[.slice none 0 0, .slice gd (A.m - g) (A.gc - g), .bool false] 25 (0, 0)) ∧ w.heap.size ≤ gr) := ⟨HTW.out.2.1, Nat.le_trans HB8.out.size HTW.out.2.2⟩
  clear HTW HB8 HRB
  generalize hsmL : sumL L = sm at *
  have HSM : Hid (restR L = if 0 < sm then [sm] else []) := by
   show _ = _
   unfold restR
   rw [hsmL]
  have HSML := Lib.hid hsmL
  clear hsmL
  refine seq_cut (fun a' w' => ∃ rxa rn rc, FrF 251 [] [(0, .pointer (some ⟨A.wb, 0, none⟩)), (1, .slice ca g cc), (5, .int .i64 (T.length : Nat)), (6, .slice rla R.length rlc), (7, .slice (some ⟨gb, 0, none⟩) R.length R.length), (8, .int .i64 gain), (12, .pointer (some ⟨gr, 0, none⟩))] a' ∧ Hid (Below w.heap.size w w' ∧ w'.ownsRow w.heap.size 3 1 (.slice rla R.length rlc) R.length (flat IntE (L.map (·.1))) ∧ BoolRow w' gb 4 (L.map (·.2)) ∧ w.heap.size ≤ gb) ∧ Hid (w'.heap[gr]? = some (.cells #[.slice rxa rn rc, .slice gd (A.m - g) (A.gc - g), .bool false] 25 (0, 0)) ∧ rn ≤ 1 ∧ Ints w' rxa rn (restR L))) (fun KU hKU => ?_) ?_
  ·
   by_cases hpos : 0 < sm
   ·
    have hq : decide (0 < sm) = true := by simpa using hpos
    have hrr : restR L = [sm] := by rw [HSM.out, if_pos hpos]
    rw [hrr] at hKU
    clear hrr
    refine wp_seq_k (fun KV hKV => ?_);revert hF;refine zrg [1, 4] [0, 1, 5, 6, 7, 8, 10, 12, 132] fun a hF => ?_
    clear hq
    refine hKV _ _ ?_;clear hKV
    refine cond_yes hF rfl ?_
    revert hF;refine zrp [1] [1, 2, 3] fun a hF => ?_;refine seq_one ?_;revert hF;refine qe1 fun a hF => ?_
    have hba := Joins.below_alloc1 w9 (.cells #[.int .i64 sm] 3)
    have HBa := Lib.hid (HB9.out.trans (hba.mono HB9.out.size))
    have HRBa : Hid ((w9.alloc (.cells #[.int .i64 sm] 3)).ownsRow w.heap.size 3 1 (.slice rla R.length rlc) R.length (flat IntE (L.map (·.1))) ∧ BoolRow (w9.alloc (.cells #[.int .i64 sm] 3)) gb 4 (L.map (·.2)) ∧ w.heap.size ≤ gb) := ⟨row_of_heap HRB9.out.1 fun b hb => hba.block b (HRB9.out.1.lt b hb).2, bool_below HRB9.out.2.1 hba, HRB9.out.2.2⟩
    have HR9 : Hid ((w9.alloc (.cells #[.int .i64 sm] 3)).heap[gr]? = some (.cells #[.slice none 0 0, .slice gd (A.m - g) (A.gc - g), .bool false] 25 (0, 0))) := (hba.block gr (lt_of_block HRR.out.1)).trans HRR.out.1
    have HI9 : Hid ((w9.alloc (.cells #[.int .i64 sm] 3)).heap[w9.heap.size]? = some (.cells #[.int .i64 sm] 3 (0, 0))) := heap_new _ _
    have hnr : w9.heap.size ≠ gr := by
     have := lt_of_block HRR.out.1
     omega
    clear hba HB9 HRB9
    generalize w9.alloc (.cells #[.int .i64 sm] 3) = wa at *
    generalize w9.heap.size = ib at *
    have q0 := boxed_cell (j := 0) HR9.out rfl
    have f0 := Joins.unfrozen_of_block HR9.out 0
    revert hF;refine zrc 2 [4] [3] fun a hF => ?_;refine seq_one ?_;revert hF;refine qu2 fun a hF => ?_
    clear q0 f0
    refine seq_end ?_;replace hF := hF.kp [0, 1, 5, 6, 7, 8, 12] rfl
    have ht := tupd_set (j := 0) HR9.out (.slice (some ⟨ib, 0, none⟩) 1 1)
    refine hKU _ _ ⟨some ⟨ib, 0, none⟩, 1, 1, hF.sub ⟨rfl, rfl, rfl, rfl, rfl, rfl, rfl, trivial⟩, ⟨HBa.out.setCell (by show _ ≤ gr; exact HRR.out.2) _, own_keepR HRBa.out.1 ht (by decide), bool_keep HRBa.out.2.1 ht (by decide), HRBa.out.2.2⟩, ?_, Nat.le_refl _, rfl, fun k hk => ?_⟩
    ·
     simp [World.setCell, Array.getElem?_modify, HR9.out]
    ·
     obtain rfl : k = 0 := by omega
     refine ⟨ib, 0, rfl, ?_⟩
     have hi := HI9.out
     rw [← Below.heap_setCell wa ⟨gr, 0, none⟩ (.slice (some ⟨ib, 0, none⟩) 1 1) ib (by dsimp only; omega)] at hi
     exact boxed_cell (j := 0) hi rfl
   ·
    have hq : decide (0 < sm) = false := by simpa using hpos
    have hrr : restR L = [] := by rw [HSM.out, if_neg hpos]
    rw [hrr] at hKU
    clear hrr
    refine wp_seq_k (fun KV hKV => ?_);revert hF;refine zrg [1, 4] [0, 1, 5, 6, 7, 8, 10, 12, 132] fun a hF => ?_
    clear hq
    refine hKV _ _ ?_;clear hKV
    refine cond_no hF rfl ?_
    refine wp_skip ?_
    exact hKU _ _ ⟨none, 0, 0, hF.sub ⟨rfl, rfl, rfl, rfl, rfl, rfl, rfl, trivial⟩, ⟨HB9.out, HRB9.out⟩, HRR.out.1, Nat.zero_le _, rfl, fun k hk => absurd hk (Nat.not_lt_zero _)⟩
  clear hF HB9 HRB9 HRR HSM
  rintro a w10 ⟨rxa, rn, rc, hF, HS, HRS⟩
  have hbd := below_d (Below.refl w10.heap.size w10)
  have HBd := Lib.hid (HS.out.1.trans (hbd.mono HS.out.1.size))
  have HRBd : Hid (w10.drew.ownsRow w.heap.size 3 1 (.slice rla R.length rlc) R.length (flat IntE (L.map (·.1))) ∧ BoolRow w10.drew gb 4 (L.map (·.2)) ∧ w.heap.size ≤ gb) := ⟨row_of_heap HS.out.2.1 fun _ _ => rfl, HS.out.2.2.1, HS.out.2.2.2⟩
  have HRd : Hid (w10.drew.heap[gr]? = some (.cells #[.slice rxa rn rc, .slice gd (A.m - g) (A.gc - g), .bool false] 25 (0, 0)) ∧ rn ≤ 1 ∧ Ints w10.drew rxa rn (restR L)) := ⟨HRS.out.1, HRS.out.2.1, HRS.out.2.2.below hbd⟩
  clear HS HRS hbd
  have hbr := restB_range HV.out g L
  have hgl := HGL.out
  obtain ⟨bn, hbn⟩ : ∃ x, x = restB A.G g L := ⟨_, rfl⟩
  rw [← hbn] at hbr
  have hbr2 : 0 ≤ bn ∧ bn ≤ 96000000 := by omega
  have HBN := Lib.hid hbn
  clear hbn hbr hgl
  have HBX : Hid (w10.drew.heap[A.wb]? = some _) := (HBd.out.block A.wb (lt_of_block HWB.out)).trans HWB.out
  have HSS : Hid (∀ w', Below w10.drew.heap.size w10.drew w' → True ∧ w'.cell? ⟨gr, 0, none⟩ = some (.slice rxa rn rc) ∧ w'.cell? ⟨gr, 1, none⟩ = some (.slice gd (A.m - g) (A.gc - g)) ∧ w'.cell? ⟨gr, 2, none⟩ = some (.bool false) ∧ w'.cell? ⟨A.wb, 3, none⟩ = some (.int .i64 A.val)) := fun w' hb =>
   ⟨trivial, Below.cell_of hb (boxed_cell (j := 0) HRd.out.1 rfl), Below.cell_of hb (boxed_cell (j := 1) HRd.out.1 rfl), Below.cell_of hb (boxed_cell (j := 2) HRd.out.1 rfl), Below.cell_of hb (boxed_cell (j := 3) HBX.out rfl)⟩
  have hws : IntKind.i64.wrap (gain + bn) = gain + bn := wrap_in (by omega) (by omega)
  refine wp_seq_k (fun K hK => ?_);refine wp_seq_k (fun K hK => ?_);refine region_any (by kernel_rfl) ?_;generalize w10.drew = wd at *;revert hF;refine zhc (fuel := 3) (fun w' => True ∧ w'.cell? ⟨gr, 0, none⟩ = some (.slice rxa rn rc) ∧ w'.cell? ⟨gr, 1, none⟩ = some (.slice gd (A.m - g) (A.gc - g)) ∧ w'.cell? ⟨gr, 2, none⟩ = some (.bool false) ∧ w'.cell? ⟨A.wb, 3, none⟩ = some (.int .i64 A.val)) (HSS.out _ (Below.refl _ _)) [1, 19, 65, 88, 104, 115] fun a hF => ?_;refine held_one (n := 2) (fuel := 2) (by kernel_rfl) ?_;revert hF;refine zoc fun K hK => ?_
  refine (refBound_any rxa gd rn rc (A.m - g) (A.gc - g) false (restR L) (A.G.drop g) wd (by have := HRd.out.2.1; omega) (by omega) HRd.out.2.2 (HPD.out wd HBd.out)).mono ?_
  rintro e w11 ⟨rfl, hb11⟩
  have hbe : boundS (restR L) (A.G.drop g) = bn := HBN.out.symm
  rw [hbe]
  refine hK _ _ (fun a hF => ⟨?_, ?_⟩)
  ·
   intro _
   exact HSS.out _ hb11
  clear hK K
  have HB11 := Lib.hid (HBd.out.trans (hb11.mono HBd.out.size))
  have HRB11 : Hid (w11.ownsRow w.heap.size 3 1 (.slice rla R.length rlc) R.length (flat IntE (L.map (·.1))) ∧ BoolRow w11 gb 4 (L.map (·.2)) ∧ w.heap.size ≤ gb) := ⟨row_of_heap HRBd.out.1 fun b hb => hb11.block b (HRBd.out.1.lt b hb).2, bool_below HRBd.out.2.1 hb11, HRBd.out.2.2⟩
  have HSS11 := Lib.hid (HSS.out _ hb11)
  clear hbe hb11 HSS HRd HBX HRBd HBd
  have HM11 := Lib.hid (HM.out.down HB11.out)
  have HT11 : Hid (TUpd WrkT w w11) := TUpd.of_below HB11.out
  by_cases hbnd : gain + bn ≤ A.val
  ·
   have hq : decide (gain + bn ≤ A.val) = true := by simpa using hbnd
   revert hF;refine zhg (fuel := 0) HSS11.out [56, 136] fun a hF => ?_;refine held_end (by kernel_rfl) ?_;replace hF := hF.kp [0, 1, 5, 6, 7, 144] rfl
   clear hq hws HSS11
   refine hK _ _ ?_;clear hK
   refine cond_yes hF rfl ?_
   have hst : stpF A.G A.val 0 g L gain T.length = [⟨2, 0, []⟩] := stp_bound HNN.out (by rw [← HBN.out]; exact hbnd)
   obtain ⟨la9, c9, hbx9, hAM⟩ := wadd_mem (k := 2) (g := 0) (gs := w11.heap.size) HM11.out (by omega)
   have HAM := Lib.hid hAM
   clear hAM
   have b4 := boxed_cell (j := 4) hbx9 rfl
   clear hbx9
   refine wp_seq_k (fun K hK => ?_);revert hF;refine zrp [1, 1, 4, 4, 4, 3] [6, 7, 8, 9, 10] fun a hF => ?_;refine seq_one ?_;revert hF;refine qe1 fun a hF => ?_
   have hrc := recs_alloc StepE w11 71 [rawS (2) (0)] #[.int .i64 (2), .int .i64 (0), .slice none 0 0] rfl
   have hba := Joins.below_alloc1 w11 (.cells #[.int .i64 (2), .int .i64 (0), .slice none 0 0] 71)
   obtain ⟨la8, c8, w2, hAPP, q4, f4, hP2, hT2, r4⟩ := HAM.out _ w11.heap.size hba hrc
   have HP2 := Lib.hid hP2
   have HT2 := Lib.hid hT2
   have R4 := Lib.hid r4
   clear hP2 hT2 hrc hba HAM r4
   refine seq_one ?_;refine op_append rfl rfl rfl rfl rfl hF rfl rfl rfl hAPP (fun a hF => ?_);clear hAPP;revert hF;refine zrc 8 [4, 4] [10] fun a hF => ?_;refine seq_one ?_;revert hF;refine qu2 fun a hF => ?_;refine seq_end ?_;replace hF := hF.kp [5] rfl
   clear q4 f4 b4
   generalize w2.setCell ⟨A.wb, 4, none⟩ (.slice la8 (T.length + 1) c8) = w12 at *
   refine hK _ _ ?_;clear hK;revert hF;refine zrs [1, 2] [4] fun a hF => ?_
   rw [hst]
   refine wp_ret ?_;(try simp only [then_ret, block_ret, goto_ret]);revert hF;refine zq ?_
   exact ⟨rfl, HP2.out, HT11.out.trans HT2.out⟩
  have hq : decide (gain + bn ≤ A.val) = false := by simpa using hbnd
  revert hF;refine zhg (fuel := 0) HSS11.out [56, 136] fun a hF => ?_;refine held_end (by kernel_rfl) ?_;replace hF := hF.kp [0, 1, 5, 6, 7, 144] rfl
  clear hq hws HSS11
  refine hK _ _ ?_;clear hK
  refine cond_no hF rfl ?_
  refine wp_skip ?_
  refine hK _ _ ?_;clear hK
  have p1 := boxed_cell (j := 1) ((HB11.out.block A.wb (lt_of_block HWB.out)).trans HWB.out) rfl
  have hq2 : ((g : Int) == (A.m : Int)) = true := by simpa using (by omega : (g : Int) = (A.m : Int))
  have hgG : g = A.G.length := by rw [HGL.out]; omega
  have HANY : Hid (L.any oneP = true) := by
   have h1 := HMO.out
   have h2 := hbnd
   rw [HBN.out] at h2
   rw [hgG] at h1 h2
   exact h1.leaf HV.out (by rw [HGL.out]; omega) (by rw [HSML.out]; exact HSU.out) HNN.out h2
  clear hgG
  refine wp_seq_k (fun K hK => ?_);revert hF;refine zrs [1, 4, 1, 4, 4, 4, 4, 4, 5] [0, 1, 5, 6, 7, 164] fun a hF => ?_
  clear p1 hq2
  refine cond_yes hF rfl ?_
  have hst : stpF A.G A.val 0 g L gain T.length = [⟨3, idxS oneP L, []⟩] := stp_zero HNN.out (by rw [← HBN.out]; exact hbnd)
  rw [← oneD_idx (no := (T.length : Int)) HANY.out] at hst
  refine seq_cut (fun a' w' => FrF 251 [] [(0, .pointer (some ⟨A.wb, 0, none⟩)), (5, .int .i64 (oneD L (T.length : Int) 0))] a' ∧ Hid (Below w.heap.size w w')) (fun KA hKA => ?_) ?_
  ·
   skip
   have hw0 : IntKind.i64.wrap ((R.length : Int) - 1) = (R.length : Int) - 1 := wrap_in (by omega) (by omega)
   revert hF;refine zrs [1, 4, 4, 2] [0, 5, 6, 7, 13] fun a hF => ?_
   clear hw0
   refine wp_block ?_
   have hoe := oneD_end L (T.length : Int)
   rw [HLN.out] at hoe
   rw [← hoe] at hF
   clear hoe
   have HS0 : Hid (Below w.heap.size w w11 ∧ w11.ownsRow w.heap.size 3 1 (.slice rla R.length rlc) R.length (flat IntE (L.map (·.1))) ∧ BoolRow w11 gb 4 (L.map (·.2)) ∧ w.heap.size ≤ gb) := ⟨HB11.out, HRB11.out⟩
   refine loop_fr (fun q a' w' => q ≤ R.length ∧ FrF 251 [] [(0, .pointer (some ⟨A.wb, 0, none⟩)), (5, .int .i64 (oneD L (T.length : Int) q)), (6, .slice rla R.length rlc), (7, .slice (some ⟨gb, 0, none⟩) R.length R.length), (13, .int .i64 ((q : Int) - 1))] a' ∧ Hid (Below w.heap.size w w' ∧ w'.ownsRow w.heap.size 3 1 (.slice rla R.length rlc) R.length (flat IntE (L.map (·.1))) ∧ BoolRow w' gb 4 (L.map (·.2)) ∧ w.heap.size ≤ gb)) R.length ⟨Nat.le_refl _, hF.sub ⟨rfl, rfl, rfl, rfl, rfl, trivial⟩, HS0⟩ ?_
   clear hF HS0
   rintro q a wr ⟨hqR, hF, HS⟩ KB hKB
   refine wp_seq_k (fun K hK => ?_)
   by_cases hq0 : q = 0
   ·
    have hq : ¬ (0 : Int) ≤ (q : Int) - 1 := by omega
    have hq' : decide ((0 : Int) ≤ (q : Int) - 1) = false := decide_eq_false hq
    revert hF;refine zrs [1, 4] [0, 5, 6, 7, 13, 169] fun a hF => ?_
    clear hq hq'
    refine cond_no hF rfl ?_
    refine wp_exit ?_
    rw [hq0] at hF
    exact hKA _ _ ⟨hF.sub ⟨rfl, rfl, trivial⟩, HS.out.1⟩
   obtain ⟨j, rfl⟩ : ∃ j, q = j + 1 := ⟨q - 1, by omega⟩
   have hjq : ((j + 1 : Nat) : Int) - 1 = (j : Int) := by omega
   rw [hjq] at hF
   have hq : (0 : Int) ≤ (j : Int) := by omega
   have hq' : decide ((0 : Int) ≤ (j : Int)) = true := decide_eq_true hq
   revert hF;refine zrs [1, 4] [0, 5, 6, 7, 13, 169] fun a hF => ?_
   clear hq hq'
   refine cond_yes hF rfl ?_
   refine wp_skip ?_
   refine hK _ _ ?_;clear hK;replace hF := hF.kp [0, 5, 6, 7, 13] rfl
   have hjL : j < L.length := by rw [HLN.out]; omega
   have hjR : (j : Int) < (R.length : Nat) := by omega
   have hstep := oneD_step (no := (T.length : Int)) hjL
   refine seq_cut (fun a' w' => FrF 251 [] [(0, .pointer (some ⟨A.wb, 0, none⟩)), (5, .int .i64 (oneD L (T.length : Int) j)), (6, .slice rla R.length rlc), (7, .slice (some ⟨gb, 0, none⟩) R.length R.length), (13, .int .i64 (j : Int))] a' ∧ Hid (Below w.heap.size w w' ∧ w'.ownsRow w.heap.size 3 1 (.slice rla R.length rlc) R.length (flat IntE (L.map (·.1))) ∧ BoolRow w' gb 4 (L.map (·.2)) ∧ w.heap.size ≤ gb)) (fun KC hKC => ?_) ?_
   rotate_left
   ·
    clear hF HS
    rintro a w' ⟨hF, HS⟩
    have hws : IntKind.i64.wrap ((j : Int) - 1) = (j : Int) - 1 := wrap_in (by omega) (by omega)
    revert hF;refine zrg [1, 4, 2] [0, 5, 6, 7, 13] fun a hF => ?_
    exact hKB j _ _ (by omega) ⟨by omega, hF, HS⟩
   clear hKB
   refine wp_block ?_
   obtain ⟨g6, hr6, hg6, r0, f0, -, -⟩ := own_int_set (q := j) HS.out.2.1 (by omega)
   have HR6 := Lib.hid hr6
   rw [hr6] at hF
   have hix : ix (L.map (·.1)) j = L[j].1 := by
    unfold ix
    simp [hjL]
   rw [hix] at r0
   have s0 := HS.out.2.2.1.cell j (by rw [List.length_map]; exact hjL)
   have hbx' : bx (L.map (·.2)) j = L[j].2 := by
    unfold bx
    simp [hjL]
   rw [hbx'] at s0
   have hone : oneP L[j] = (L[j].2 && decide (L[j].1 = 1)) := rfl
   rw [hone] at hstep
   obtain ⟨x, hx⟩ : ∃ r, r = L[j].1 := ⟨_, rfl⟩
   obtain ⟨u, hu⟩ : ∃ r, r = L[j].2 := ⟨_, rfl⟩
   rw [← hx, ← hu] at hstep
   rw [← hx] at r0
   rw [← hu] at s0
   clear hx hu hone hix hbx' f0 hr6 hg6
   cases u with
   | false =>
    have he : oneD L (T.length : Int) j = oneD L (T.length : Int) (j + 1) := by rw [hstep]; rfl
    rw [← he] at hF
    clear he hstep
    revert hF;refine zrs [1, 1, 5, 4, 1, 0, 0, 0, 0, 0, 5] [0, 5, 6, 7, 13, 182] fun a hF => ?_
    clear r0 s0
    refine cond_no hF rfl ?_
    refine wp_skip ?_
    rw [← HR6.out] at hF
    exact hKC _ _ ⟨hF.sub ⟨rfl, rfl, rfl, rfl, rfl, trivial⟩, HS⟩
   | true =>
    by_cases h1 : x = 1
    ·
     have he : oneD L (T.length : Int) j = (j : Int) := by rw [hstep, h1]; rfl
     have hq : (x == 1) = true := by simp [h1]
     rw [he] at hKC
     clear he hstep
     revert hF;refine zrs [1, 1, 5, 4, 1, 1, 1, 5, 4, 4, 5] [0, 5, 6, 7, 13, 182] fun a hF => ?_
     clear r0 s0 hq
     refine cond_yes hF rfl ?_
     revert hF;refine zrg [1, 2] [0, 5, 6, 7, 13] fun a hF => ?_
     rw [← HR6.out] at hF
     exact hKC _ _ ⟨hF.sub ⟨rfl, rfl, rfl, rfl, rfl, trivial⟩, HS⟩
    ·
     have he : oneD L (T.length : Int) j = oneD L (T.length : Int) (j + 1) := by
      rw [hstep, decide_eq_false h1]
      rfl
     have hq : (x == 1) = false := by simp [h1]
     rw [← he] at hF
     clear he hstep
     revert hF;refine zrs [1, 1, 5, 4, 1, 1, 1, 5, 4, 4, 5] [0, 5, 6, 7, 13, 182] fun a hF => ?_
     clear r0 s0 hq
     refine cond_no hF rfl ?_
     refine wp_skip ?_
     rw [← HR6.out] at hF
     exact hKC _ _ ⟨hF.sub ⟨rfl, rfl, rfl, rfl, rfl, trivial⟩, HS⟩
  clear hF HM11 HT11 HB11 HRB11
  rintro a w13 ⟨hF, HB13⟩
  have HM13 := Lib.hid (HM.out.down HB13.out)
  have HT13 : Hid (TUpd WrkT w w13) := TUpd.of_below HB13.out
  obtain ⟨od, hod⟩ : ∃ x, x = oneD L (T.length : Int) 0 := ⟨_, rfl⟩
  rw [← hod] at hF hst
  clear hod
  obtain ⟨la9, c9, hbx9, hAM⟩ := wadd_mem (k := 3) (g := od) (gs := w13.heap.size) HM13.out (by omega)
  have HAM := Lib.hid hAM
  clear hAM
  have b4 := boxed_cell (j := 4) hbx9 rfl
  clear hbx9
  refine wp_seq_k (fun K hK => ?_);revert hF;refine zrp [1, 1, 4, 4, 4, 1, 4] [7, 8, 9, 10, 11] fun a hF => ?_;refine seq_one ?_;revert hF;refine qe1 fun a hF => ?_
  have hrc := recs_alloc StepE w13 71 [rawS (3) (od)] #[.int .i64 (3), .int .i64 (od), .slice none 0 0] rfl
  have hba := Joins.below_alloc1 w13 (.cells #[.int .i64 (3), .int .i64 (od), .slice none 0 0] 71)
  obtain ⟨la8, c8, w2, hAPP, q4, f4, hP2, hT2, r4⟩ := HAM.out _ w13.heap.size hba hrc
  have HP2 := Lib.hid hP2
  have HT2 := Lib.hid hT2
  have R4 := Lib.hid r4
  clear hP2 hT2 hrc hba HAM r4
  refine seq_one ?_;refine op_append rfl rfl rfl rfl rfl hF rfl rfl rfl hAPP (fun a hF => ?_);clear hAPP;revert hF;refine zrc 9 [4, 4] [11] fun a hF => ?_;refine seq_one ?_;revert hF;refine qu2 fun a hF => ?_;refine seq_end ?_;replace hF := hF.kp [0] rfl
  clear q4 f4 b4
  generalize w2.setCell ⟨A.wb, 4, none⟩ (.slice la8 (T.length + 1) c8) = w14 at *
  refine hK _ _ ?_;clear hK
  have hws : IntKind.i64.wrap (T.length : Int) = (T.length : Int) := wrap_in (by omega) (by omega)
  have b4 := R4.out
  revert hF;refine zrs [1, 4, 4, 4, 4, 4, 2] [4] fun a hF => ?_
  clear b4 hws
  rw [hst]
  refine wp_ret ?_;(try simp only [then_ret, block_ret, goto_ret]);revert hF;refine zq ?_
  exact ⟨rfl, HP2.out, HT13.out.trans HT2.out⟩
 | succ k ih =>
  intro g C w ca cc T X hgk hcr hC hcc hM hX hmost hT
  have HV := Lib.hid (validS_parts hv).2.2
  have HVS := Lib.hid hv
  have HRG := Lib.hid (rooms_of hv)
  have HGL : Hid (A.G.length = A.m) := hG.1
  have HRL : Hid (A.rn = R.length) := hR.1.symm
  have HRP : Hid (∀ wx, Below wI.heap.size wI wx → Ints wx A.ra R.length R) := fun wx hb => by
   have := hR.below hb
   rw [← hR.1] at this
   exact this
  have HGP : Hid (∀ wx, Below w.heap.size w wx → Pairs wx A.ga A.m A.G) := fun wx hb => (hG.below hM.below).below hb
  have HRW : Hid (Ints w A.ra R.length R) := HRP.out w hM.below
  have HCM : Hid (∀ j, -1 ≤ ix C j) := fun j => by
   by_cases e : j < g
   ·
    exact (hcr j e).1
   ·
    have : ix C j = 0 := by
     unfold ix
     simp [List.getD_eq_getElem?_getD, List.getElem?_eq_none (show C.length ≤ j by rw [hC.1]; omega)]
    omega
  have HCR := Lib.hid hcr
  have HC0 := Lib.hid hC
  have HCI : Hid (Ints w ca g C) := recs_ints' hC.recs
  have HM := Lib.hid hM
  have HX := Lib.hid hX
  have HMO := Lib.hid hmost
  have HSZ : Hid (wI.heap.size ≤ w.heap.size) := hM.below.size
  obtain ⟨la0, c00, hbx0⟩ := hM.openS
  have HWB := Lib.hid hbx0
  have HIH := Lib.hid ih
  clear ih hcr hC hM hX hmost hbx0
  refine enter_fr (N := 251) [.pointer (some ⟨A.wb, 0, none⟩), .slice ca g cc] (Tryz.func29) rfl Tryz.ntmps29 (by rfl) (fun a hF => ?_);replace hF := hF.kp [0, 1] rfl;revert hF;refine zrs [2] [0, 1] fun a hF => ?_
  have b4 := boxed_cell (j := 4) HWB.out rfl
  revert hF;refine zrs [1, 4, 4, 4, 4, 2] [0, 1, 5] fun a hF => ?_
  clear b4
  have hsp : 1 ≤ (stpF A.G A.val (k + 1) g (stL R A.G (ix C) g) (valS A.G (dec (ix C) g)) T.length).length := stp_pos
  have hq : ¬ (100000 : Int) ≤ (T.length : Nat) := by omega
  have hq' : decide ((100000 : Int) ≤ (T.length : Int)) = false := decide_eq_false hq
  refine wp_seq_k (fun K hK => ?_);revert hF;refine zrs [1, 4] [0, 1, 5, 23] fun a hF => ?_
  clear hq hq' hsp
  refine cond_no hF rfl ?_
  refine wp_skip ?_
  refine hK _ _ ?_;clear hK
  -- rooms
  have A0 := Lib.hid (AS.start (E := IntE) (T := 3) (a := 0) w.heap.size w (Nat.le_refl _))
  have b0 := boxed_cell (j := 0) HWB.out rfl
  refine wp_seq_k (fun K hK => ?_);refine region_seq (l := [0, 1, 2, 3, 4, 5, 6, 7]) (by kernel_rfl) ?_;refine seq_one ?_;revert hF;refine qe0 fun a hF => ?_
  have A1 := Lib.hid A0.out.lit
  clear A0
  obtain ⟨g0, hg0⟩ : ∃ x, x = w.heap.size := ⟨_, rfl⟩
  have A1 : Hid (AS IntE 3 w w.heap.size 0 (w.alloc (.cells #[] 3)) (some (.slice (some ⟨g0, 0, none⟩) 0 0, [])) none) := by rw [hg0]; exact A1.out
  generalize w.alloc (.cells #[] 3) = w1 at *
  rw [← hg0] at hF
  clear hg0
  have b0 := boxed_cell (j := 0) ((A1.out.below.block A.wb (lt_of_block HWB.out)).trans HWB.out) rfl
  obtain ⟨rla, rlc, w2, hAPP, hA2⟩ := A1.out.app 22 22 (u := .slice A.ra A.rn A.rc) Tryz.underlying22 info_int rfl (by decide) (by rw [HRL.out]; exact ints_rcsM (HRW.out.below A1.out.below) hrc) (D' := R) rfl (by omega)
  have A2 := Lib.hid hA2
  clear hA2 A1
  revert hF;refine zrc 1 [1, 4, 4, 4, 4] [6, 7] fun a hF => ?_;refine seq_one ?_;refine op_append rfl rfl rfl rfl rfl hF rfl rfl rfl hAPP (fun a hF => ?_);clear hAPP;revert hF;refine zre 7 [2] [0, 1, 5, 6] fun a hF => ?_
  clear b0
  refine hK _ _ ?_;clear hK
  -- sits
  obtain ⟨arr, hs, hz, hmk⟩ := make_bools R.length (by omega)
  refine wp_seq_k (fun K hK => ?_);revert hF;refine zrp [1, 4] [2, 3] fun a hF => ?_;refine seq_one ?_;revert hF;refine qe2 fun a hF => ?_
  have HU : Hid (BoolRow (w2.alloc (.cells arr 4)) w2.heap.size 4 (List.replicate R.length false)) := BoolRow.made rfl hs hz
  have b3 := Joins.below_alloc1 w2 (.cells arr 4)
  have hs2 : w.heap.size ≤ w2.heap.size := A2.out.below.size
  have HS0 : Hid (Below w.heap.size w (w2.alloc (.cells arr 4)) ∧ (w2.alloc (.cells arr 4)).ownsRow w.heap.size 3 1 (.slice rla R.length rlc) R.length (flat IntE ((stL R A.G (ix C) 0).map (·.1))) ∧ BoolRow (w2.alloc (.cells arr 4)) w2.heap.size 4 ((stL R A.G (ix C) 0).map (·.2)) ∧ w.heap.size ≤ w2.heap.size) := by
   obtain ⟨e1, e2⟩ := run0_maps R
   refine ⟨A2.out.below.trans (b3.mono hs2), ?_, ?_, hs2⟩
   ·
    show _ = _ ∧ _
    rw [show (stL R A.G (ix C) 0).map (·.1) = R from e1]
    exact row_of_heap (A2.out.own _ _ rfl) fun b hb => b3.block b ((A2.out.own _ _ rfl).lt b hb).2
   ·
    rw [show (stL R A.G (ix C) 0).map (·.2) = List.replicate R.length false from e2]
    exact HU.out
  clear hmk hs hz HU b3 hs2 A2
  generalize w2.alloc (.cells arr 4) = w3 at *
  generalize w2.heap.size = gb at *
  revert hF;refine zre 3 [2] [0, 1, 5, 6, 7] fun a hF => ?_;refine hK _ _ ?_;clear hK;revert hF;refine zrs [2] [0, 1, 5, 6, 7, 8] fun a hF => ?_
  refine seq_cut (fun a' w' => FrF 251 [] [(0, .pointer (some ⟨A.wb, 0, none⟩)), (1, .slice ca g cc), (5, .int .i64 (T.length : Nat)), (6, .slice rla R.length rlc), (7, .slice (some ⟨gb, 0, none⟩) R.length R.length), (8, .int .i64 (valS A.G (dec (ix C) g)))] a' ∧ Hid (Below w.heap.size w w' ∧ w'.ownsRow w.heap.size 3 1 (.slice rla R.length rlc) R.length (flat IntE ((stL R A.G (ix C) g).map (·.1))) ∧ BoolRow w' gb 4 ((stL R A.G (ix C) g).map (·.2)) ∧ w.heap.size ≤ gb)) (fun KAi hKAi => ?_) ?_
  ·
   skip
   revert hF;refine zrs [2] [0, 1, 5, 6, 7, 8, 9] fun a hF => ?_
   refine wp_block ?_
   refine loop_fr (fun qi a' w' => ∃ i : Nat, i + qi = g ∧ FrF 251 [] [(0, .pointer (some ⟨A.wb, 0, none⟩)), (1, .slice ca g cc), (5, .int .i64 (T.length : Nat)), (6, .slice rla R.length rlc), (7, .slice (some ⟨gb, 0, none⟩) R.length R.length), (8, .int .i64 (valS A.G (dec (ix C) i))), (9, .int .i64 i)] a' ∧ Hid (Below w.heap.size w w' ∧ w'.ownsRow w.heap.size 3 1 (.slice rla R.length rlc) R.length (flat IntE ((stL R A.G (ix C) i).map (·.1))) ∧ BoolRow w' gb 4 ((stL R A.G (ix C) i).map (·.2)) ∧ w.heap.size ≤ gb)) (g) ⟨0, by omega, hF, HS0⟩ ?_
   clear hF HS0
   rintro rki a wr ⟨i, hiki, hF, HS⟩ KBi hKBi
   refine wp_seq_k (fun K hK => ?_)
   by_cases hlt : i < g
   rotate_left
   ·
    have hlti : ¬ (i : Int) < (g : Nat) := by omega
    revert hF;refine zrs [1, 1, 4, 5] [0, 1, 5, 6, 7, 8, 9, 40] fun a hF => ?_
    refine cond_no hF rfl ?_
    refine wp_exit ?_
    have hie : i = g := by omega
    rw [hie] at hF HS
    exact hKAi _ _ ⟨hF.sub ⟨rfl, rfl, rfl, rfl, rfl, rfl, trivial⟩, HS⟩
   have hlti : (i : Int) < (g : Nat) := by omega
   revert hF;refine zrs [1, 1, 4, 5] [0, 1, 5, 6, 7, 8, 9, 40] fun a hF => ?_
   refine cond_yes hF rfl ?_
   refine wp_skip ?_
   refine hK _ _ ?_;clear hK;replace hF := hF.kp [0, 1, 5, 6, 7, 8, 9] rfl
   clear hKAi
   refine seq_cut (fun a' w' => FrF 251 [] [(0, .pointer (some ⟨A.wb, 0, none⟩)), (1, .slice ca g cc), (5, .int .i64 (T.length : Nat)), (6, .slice rla R.length rlc), (7, .slice (some ⟨gb, 0, none⟩) R.length R.length), (8, .int .i64 (valS A.G (dec (ix C) (i + 1)))), (9, .int .i64 i)] a' ∧ Hid (Below w.heap.size w w' ∧ w'.ownsRow w.heap.size 3 1 (.slice rla R.length rlc) R.length (flat IntE ((stL R A.G (ix C) (i + 1)).map (·.1))) ∧ BoolRow w' gb 4 ((stL R A.G (ix C) (i + 1)).map (·.2)) ∧ w.heap.size ≤ gb)) (fun KCi hKCi => ?_) ?_
   rotate_left
   ·
    clear hF HS
    rintro a w' ⟨hF, HS⟩
    have hws : IntKind.i64.wrap ((i : Int) + 1) = ((i + 1 : Nat) : Int) := wrap_succ (by omega)
    revert hF;refine zrg [1, 4, 2] [0, 1, 5, 6, 7, 8, 9] fun a hF => ?_
    exact hKBi (g - (i + 1)) _ _ (by omega) ⟨i + 1, by omega, hF, HS⟩
   clear hKBi hiki
   refine wp_block ?_
   have hii : (i : Int) < (g : Nat) := by omega
   have hci := HCR.out i hlt
   have hgm : i < A.G.length := by rw [HGL.out]; omega
   have hgv := HV.out i hgm
   have hil : i < A.m := by omega
   have hil' : (i : Int) < (A.m : Nat) := by omega
   have hsl : (stL R A.G (ix C) i).length = R.length := stL_len i
   have hlow := stL_low (c := ix C) HV.out HRG.out i (by omega)
   have hvl := val_le (c := ix C) HV.out (fun j _ => HCM.out j) i (by omega)
   have hmul : 0 ≤ gs A.G i * gv A.G i ∧ gs A.G i * gv A.G i ≤ 12000000 := ⟨Int.mul_nonneg (by omega) (by omega), Int.le_trans (Int.mul_le_mul hgv.1.2 hgv.2.2 hgv.2.1 (by omega)) (by omega)⟩
   obtain ⟨bc, oc, hca, c0⟩ := (HCI.out.below HS.out.1).2 i hlt
   have HCA := Lib.hid hca
   rw [hca] at hF
   clear hca
   by_cases hneg : ix C i < 0
   ·
    have hq : decide (0 ≤ ix C i) = false := decide_eq_false (by omega)
    have hq' : ¬ 0 ≤ ix C i := by omega
    have hst := stL_none (R := R) (G := A.G) hneg
    have hvo := val_out' (G := A.G) (c := ix C) (g := i) (by omega)
    rw [hst, hvo] at hKCi
    clear hst hvo hlow hneg
    revert hF;refine zrs [1, 1, 5, 4, 4] [0, 1, 5, 6, 7, 8, 9, 47] fun a hF => ?_
    clear hq hq' c0
    refine cond_no hF rfl ?_
    refine wp_skip ?_
    rw [← HCA.out] at hF
    exact hKCi _ _ ⟨hF.sub ⟨rfl, rfl, rfl, rfl, rfl, rfl, rfl, trivial⟩, HS⟩
   obtain ⟨q, hqq⟩ : ∃ q : Nat, ix C i = (q : Int) := ⟨(ix C i).toNat, by omega⟩
   have hst := stL_next (R := R) (G := A.G) hqq
   have hvo := val_sit' (G := A.G) (c := ix C) (g := i) hqq
   rw [hst, hvo] at hKCi
   rw [hqq] at c0
   have hqn : q < R.length := by omega
   have hqn' : (q : Int) < (R.length : Nat) := by omega
   have HQQ := Lib.hid hqq
   obtain ⟨L1, hL1⟩ : ∃ x, x = stL R A.G (ix C) i := ⟨_, rfl⟩
   rw [← hL1] at HS hKCi hlow hsl
   have hq1 : q < L1.length := by omega
   obtain ⟨m1, m2⟩ := sit_maps L1 hq1 (gs A.G i)
   rw [m1, m2] at hKCi
   have hix : ix (L1.map (·.1)) q = L1[q].1 := by
    unfold ix
    simp [hq1]
   have hxl := hlow L1[q] (List.getElem_mem hq1)
   rw [← hix] at hxl
   clear hst hvo hL1 hneg hqq m1 m2 hix hlow
   have hq : decide ((0 : Int) ≤ (q : Int)) = true := by simp
   have hq' : (0 : Int) ≤ (q : Int) := by omega
   revert hF;refine zrs [1, 1, 5, 4, 4] [0, 1, 5, 6, 7, 8, 9, 47] fun a hF => ?_
   clear hq hq' c0
   refine cond_yes hF rfl ?_
   -- rooms[q] -= size
   have hbd := below_d (Below.refl wr.heap.size wr)
   have HBd := Lib.hid (HS.out.1.trans (hbd.mono HS.out.1.size))
   obtain ⟨g6, hr6, hg6, r0, f0, ⟨cur6, hcur6⟩, hset6⟩ := own_int_set (w := wr.drew) (q := q) (row_of_heap HS.out.2.1 fun _ _ => rfl) hqn
   have HR6 := Lib.hid hr6
   rw [hr6] at hF
   have HSB : Hid (BoolRow wr.drew gb 4 (L1.map (·.2)) ∧ w.heap.size ≤ gb) := ⟨HS.out.2.2.1, HS.out.2.2.2⟩
   have HSBC := Lib.hid HSB.out.1
   obtain ⟨bc', oc', hca', c0⟩ := (HCI.out.below HBd.out).2 i hlt
   obtain ⟨rfl, rfl⟩ : bc = bc' ∧ oc = oc' := by
    have := HCA.out.symm.trans hca'
    simpa using this
   clear hca'
   rw [HQQ.out] at c0
   obtain ⟨bg, og, hga, e0, e1⟩ := (HGP.out _ HBd.out).2 i hil
   have p1 := boxed_cell (j := 1) ((HBd.out.block A.wb (lt_of_block HWB.out)).trans HWB.out) rfl
   rw [hga] at p1
   obtain ⟨x, hx⟩ : ∃ x, x = ix (L1.map (·.1)) q := ⟨_, rfl⟩
   rw [← hx] at r0 hxl hKCi
   clear hx
   have hws : IntKind.i64.wrap (x - gs A.G i) = x - gs A.G i := wrap_in (by omega) (by omega)
   have hBf : Below w.heap.size w (wr.drew.setCell ⟨g6, q, none⟩ (.int .i64 (x - gs A.G i))) := HBd.out.setCell (by show _ ≤ g6; exact hg6) _
   have hbool : BoolRow (wr.drew.setCell ⟨g6, q, none⟩ (.int .i64 (x - gs A.G i))) gb 4 (L1.map (·.2)) := HSBC.out.of_heap (Below.heap_setCell _ _ _ _ (fun e => by
    obtain ⟨arr, hb⟩ := bool_type HSBC.out
    dsimp only at e
    rw [← e] at hcur6
    rw [hcur6] at hb
    cases hb))
   have HS4 : Hid (Below w.heap.size w (wr.drew.setCell ⟨g6, q, none⟩ (.int .i64 (x - gs A.G i))) ∧ (wr.drew.setCell ⟨g6, q, none⟩ (.int .i64 (x - gs A.G i))).ownsRow w.heap.size 3 1 (.slice rla R.length rlc) R.length (flat IntE ((L1.map (·.1)).set q (x - gs A.G i))) ∧ BoolRow (wr.drew.setCell ⟨g6, q, none⟩ (.int .i64 (x - gs A.G i))) gb 4 (L1.map (·.2)) ∧ w.heap.size ≤ gb) := ⟨hBf, hset6 _, hbool, HSB.out.2⟩
   clear hset6 hcur6 hBf hbool HSB HSBC hbd HS hga hr6 hg6
   refine wp_seq_k (fun K hK => ?_);refine region_any (by kernel_rfl) ?_;generalize wr.drew = wd at *;revert hF;refine zra (fuel := 1) [1, 33, 65, 106, 148, 170, 212, 225, 265, 297, 329, 372, 385, 426, 457, 500, 522, 554] [18] fun a hF => ?_;refine any_one (n := 18) (fuel := 0) (by kernel_rfl) ?_;revert hF;refine qu2 fun a hF => ?_
   clear r0 f0 c0 e0 e1 p1 hws
   refine any_end (by kernel_rfl) ?_;replace hF := hF.kp [0, 1, 5, 6, 7, 8, 9] rfl;refine hK _ _ ?_;clear hK
   rw [← HR6.out] at hF
   generalize wd.setCell ⟨g6, q, none⟩ (.int .i64 (x - gs A.G i)) = w4 at *
   -- sits[q] = true
   have s0 := HS4.out.2.2.1.cell q (by rw [List.length_map]; omega)
   have f0 := HS4.out.2.2.1.free q
   obtain ⟨bc', oc', hca', c0⟩ := (HCI.out.below HS4.out.1).2 i hlt
   obtain ⟨rfl, rfl⟩ : bc = bc' ∧ oc = oc' := by
    have := HCA.out.symm.trans hca'
    simpa using this
   clear hca'
   rw [HQQ.out] at c0
   obtain ⟨D6, hD6⟩ : ∃ y : List Int, y = (L1.map (·.1)).set q (x - gs A.G i) := ⟨_, rfl⟩
   rw [← hD6] at HS4 hKCi
   clear hD6
   have HS5 : Hid (Below w.heap.size w (w4.setCell ⟨gb, q, none⟩ (.bool true)) ∧ (w4.setCell ⟨gb, q, none⟩ (.bool true)).ownsRow w.heap.size 3 1 (.slice rla R.length rlc) R.length (flat IntE D6) ∧ BoolRow (w4.setCell ⟨gb, q, none⟩ (.bool true)) gb 4 ((L1.map (·.2)).set q true) ∧ w.heap.size ≤ gb) :=
    ⟨HS4.out.1.setCell (by show _ ≤ gb; exact HS4.out.2.2.2) _, by
     obtain ⟨arr, hb⟩ := bool_type HS4.out.2.2.1
     exact own_keepR HS4.out.2.1 (tupd_set (j := q) hb _) (by decide), HS4.out.2.2.1.set q (by rw [List.length_map]; omega) true, HS4.out.2.2.2⟩
   clear HS4
   refine wp_seq_k (fun K hK => ?_);revert hF;refine zrp [1, 1, 1, 5, 4, 5] [6] fun a hF => ?_;refine seq_one ?_;revert hF;refine qu1 fun a hF => ?_
   clear s0 f0 c0
   refine seq_end ?_;replace hF := hF.kp [0, 1, 5, 6, 7, 8, 9] rfl;refine hK _ _ ?_;clear hK
   generalize w4.setCell ⟨gb, q, none⟩ (.bool true) = w5 at *
   -- gain
   have hbd := below_d (Below.refl w5.heap.size w5)
   have HBd := Lib.hid (HS5.out.1.trans (hbd.mono HS5.out.1.size))
   have HS6 : Hid (Below w.heap.size w w5.drew ∧ w5.drew.ownsRow w.heap.size 3 1 (.slice rla R.length rlc) R.length (flat IntE D6) ∧ BoolRow w5.drew gb 4 ((L1.map (·.2)).set q true) ∧ w.heap.size ≤ gb) := ⟨HBd.out, row_of_heap HS5.out.2.1 fun _ _ => rfl, HS5.out.2.2.1, HS5.out.2.2.2⟩
   obtain ⟨bg, og, hga, e0, e1⟩ := (HGP.out _ HBd.out).2 i hil
   have p1 := boxed_cell (j := 1) ((HBd.out.block A.wb (lt_of_block HWB.out)).trans HWB.out) rfl
   rw [hga] at p1
   obtain ⟨vi, hvi⟩ : ∃ x, x = valS A.G (dec (ix C) i) := ⟨_, rfl⟩
   rw [← hvi] at hF hvl hKCi
   obtain ⟨b, hb⟩ : ∃ x, x = gs A.G i * gv A.G i := ⟨_, rfl⟩
   have hwm : IntKind.i64.wrap (gs A.G i * gv A.G i) = b := by
    rw [hb]
    exact wrap_in (by omega) (by omega)
   rw [← hb] at hmul hKCi
   have hws : IntKind.i64.wrap (vi + b) = vi + b := wrap_in (by omega) (by omega)
   clear hb hvi hbd HS5 hga
   refine region_any (by kernel_rfl) ?_;generalize w5.drew = wd5 at *;revert hF;refine zrb (fuel := 0) [1, 33, 73, 105, 137, 180, 193, 234, 265, 308, 321, 361, 393, 425, 468, 481, 522, 553, 596, 618, 650, 674] [0, 1, 5, 6, 7, 8, 9] fun a hF => ?_
   clear e0 e1 p1 hwm hws
   rw [← HCA.out] at hF
   exact hKCi _ _ ⟨hF.sub ⟨rfl, rfl, rfl, rfl, rfl, rfl, rfl, trivial⟩, HS6⟩
  clear hF HS0
  rintro a w7 ⟨hF, HS⟩
  -- the runs behind the decisions
  revert hF;refine zrs [2] [0, 1, 5, 6, 7, 8, 10] fun a hF => ?_
  obtain ⟨L, hL⟩ : ∃ x, x = stL R A.G (ix C) g := ⟨_, rfl⟩
  have HLE := Lib.hid hL
  have HLN : Hid (L.length = R.length) := by rw [hL]; exact stL_len g
  have HSU : Hid (sumL L ≤ 4000) := by
   rw [hL]
   exact Int.le_trans (stL_sum HV.out g (by rw [HGL.out]; omega) (fun j hj => (HCR.out j hj).2)) (runsOk_sum R 4000 (by omega) (validS_parts HVS.out).1).2.1
  have HLR : Hid (∀ r ∈ L, -12 * (g : Int) ≤ r.1 ∧ r.1 ≤ 4000) := by
   rw [hL]
   exact stL_low (c := ix C) HV.out HRG.out g (by rw [HGL.out]; omega)
  have hgn := val_le (c := ix C) HV.out (fun j _ => HCM.out j) g (by rw [HGL.out]; omega)
  obtain ⟨gain, hgain⟩ : ∃ x, x = valS A.G (dec (ix C) g) := ⟨_, rfl⟩
  have HGE := Lib.hid hgain
  rw [← hL] at HS hT HMO ⊢
  rw [← hgain] at hF hT HMO hgn ⊢
  clear hL hgain
  have HS0 := HS
  have HNG0 : Hid (∀ j (hj : j < L.length), j < 0 → ¬ L[j].1 < 0) := fun j _ h => absurd h (Nat.not_lt_zero _)
  clear HS
  refine seq_cut (fun a' w' => FrF 251 [] [(0, .pointer (some ⟨A.wb, 0, none⟩)), (1, .slice ca g cc), (5, .int .i64 (T.length : Nat)), (6, .slice rla R.length rlc), (7, .slice (some ⟨gb, 0, none⟩) R.length R.length), (8, .int .i64 gain), (10, .int .i64 (sumL (L.take R.length)))] a' ∧ Hid (Below w.heap.size w w' ∧ w'.ownsRow w.heap.size 3 1 (.slice rla R.length rlc) R.length (flat IntE (L.map (·.1))) ∧ BoolRow w' gb 4 (L.map (·.2)) ∧ w.heap.size ≤ gb) ∧ Hid (∀ j (hj : j < L.length), j < R.length → ¬ L[j].1 < 0)) (fun KAj hKAj => ?_) ?_
  ·
   skip
   revert hF;refine zrs [2] [0, 1, 5, 6, 7, 8, 10, 11] fun a hF => ?_
   refine wp_block ?_
   refine loop_fr (fun qj a' w' => ∃ i : Nat, i + qj = R.length ∧ FrF 251 [] [(0, .pointer (some ⟨A.wb, 0, none⟩)), (1, .slice ca g cc), (5, .int .i64 (T.length : Nat)), (6, .slice rla R.length rlc), (7, .slice (some ⟨gb, 0, none⟩) R.length R.length), (8, .int .i64 gain), (10, .int .i64 (sumL (L.take i))), (11, .int .i64 i)] a' ∧ Hid (Below w.heap.size w w' ∧ w'.ownsRow w.heap.size 3 1 (.slice rla R.length rlc) R.length (flat IntE (L.map (·.1))) ∧ BoolRow w' gb 4 (L.map (·.2)) ∧ w.heap.size ≤ gb) ∧ Hid (∀ j (hj : j < L.length), j < i → ¬ L[j].1 < 0)) (R.length) ⟨0, by omega, hF, HS0, HNG0⟩ ?_
   clear hF HS0  HNG0
   rintro rkj a wr ⟨i, hikj, hF, HS, HNG⟩ KBj hKBj
   refine wp_seq_k (fun K hK => ?_)
   by_cases hlt : i < R.length
   rotate_left
   ·
    have hlti : ¬ (i : Int) < (R.length : Nat) := by omega
    revert hF;refine zrs [1, 1, 4, 5] [0, 1, 5, 6, 7, 8, 10, 11, 96] fun a hF => ?_
    refine cond_no hF rfl ?_
    refine wp_exit ?_
    have hie : i = R.length := by omega
    rw [hie] at hF HNG
    exact hKAj _ _ ⟨hF.sub ⟨rfl, rfl, rfl, rfl, rfl, rfl, rfl, trivial⟩, HS, HNG⟩
   have hlti : (i : Int) < (R.length : Nat) := by omega
   revert hF;refine zrs [1, 1, 4, 5] [0, 1, 5, 6, 7, 8, 10, 11, 96] fun a hF => ?_
   refine cond_yes hF rfl ?_
   refine wp_skip ?_
   refine hK _ _ ?_;clear hK;replace hF := hF.kp [0, 1, 5, 6, 7, 8, 10, 11] rfl
   clear hKAj
   refine seq_cut (fun a' w' => FrF 251 [] [(0, .pointer (some ⟨A.wb, 0, none⟩)), (1, .slice ca g cc), (5, .int .i64 (T.length : Nat)), (6, .slice rla R.length rlc), (7, .slice (some ⟨gb, 0, none⟩) R.length R.length), (8, .int .i64 gain), (10, .int .i64 (sumL (L.take (i + 1)))), (11, .int .i64 i)] a' ∧ Hid (Below w.heap.size w w' ∧ w'.ownsRow w.heap.size 3 1 (.slice rla R.length rlc) R.length (flat IntE (L.map (·.1))) ∧ BoolRow w' gb 4 (L.map (·.2)) ∧ w.heap.size ≤ gb) ∧ Hid (∀ j (hj : j < L.length), j < (i + 1) → ¬ L[j].1 < 0)) (fun KCj hKCj => ?_) ?_
   rotate_left
   ·
    clear hF HS HNG
    rintro a w' ⟨hF, HS, HNG⟩
    have hws : IntKind.i64.wrap ((i : Int) + 1) = ((i + 1 : Nat) : Int) := wrap_succ (by omega)
    revert hF;refine zrg [1, 4, 2] [0, 1, 5, 6, 7, 8, 10, 11] fun a hF => ?_
    exact hKBj (R.length - (i + 1)) _ _ (by omega) ⟨i + 1, by omega, hF, HS, HNG⟩
   clear hKBj hikj
   refine wp_block ?_
   have hil : i < L.length := by rw [HLN.out]; exact hlt
   have hii : (i : Int) < (R.length : Nat) := by omega
   have hri := HLR.out L[i] (List.getElem_mem hil)
   have hsn := sum_next hil
   rw [hsn] at hKCj
   clear hsn
   have hsr := sum_range (fun r hr => (HLR.out r hr).2) i (by omega) HNG.out
   have HFN : Hid (L[i].1 < 0 → L.findIdx? negP = some i) := fun h => neg_some hil h HNG.out
   have HNX : Hid (¬ L[i].1 < 0 → ∀ j (hj : j < L.length), j < i + 1 → ¬ L[j].1 < 0) := fun h j hj hji => by
    by_cases e : j = i
    ·
     subst e; exact h
    ·
     exact HNG.out j hj (by omega)
   obtain ⟨g6, hr6, hg6, r0, f0, -, -⟩ := own_int_set (q := i) HS.out.2.1 hlt
   have HR6 := Lib.hid hr6
   rw [hr6] at hF
   have hix : ix (L.map (·.1)) i = L[i].1 := by
    unfold ix
    simp [hil]
   rw [hix] at r0
   obtain ⟨x, hx⟩ : ∃ r, r = L[i].1 := ⟨_, rfl⟩
   rw [← hx] at r0 hri HFN HNX hKCj
   obtain ⟨sm, hsm⟩ : ∃ x, x = sumL (L.take i) := ⟨_, rfl⟩
   rw [← hsm] at hF hKCj hsr
   clear hx hsm hr6 hg6 f0 hix
   refine wp_seq_k (fun K hK => ?_)
   by_cases hneg : x < 0
   ·
    have hq : decide (x < 0) = true := by simpa using hneg
    revert hF;refine zrs [1, 1, 5, 4, 4] [0, 1, 5, 6, 7, 8, 10, 11, 103] fun a hF => ?_
    clear hq r0
    refine cond_yes hF rfl ?_
    have hst : stpF A.G A.val (k + 1) g L gain T.length = [⟨3, (i : Int), []⟩] := stp_neg (HFN.out hneg)
    have HMr := Lib.hid (HM.out.down HS.out.1)
    have HTr : Hid (TUpd WrkT w wr) := TUpd.of_below HS.out.1
    clear hKCj HS HNX HFN
    obtain ⟨la9, c9, hbx9, hAM⟩ := wadd_mem (k := 3) (g := (i : Int)) (gs := wr.heap.size) HMr.out (by omega)
    have HAM := Lib.hid hAM
    clear hAM
    have b4 := boxed_cell (j := 4) hbx9 rfl
    clear hbx9
    refine wp_seq_k (fun K hK => ?_);revert hF;refine zrp [1, 1, 4, 4, 4, 1, 4] [7, 8, 9, 10, 11] fun a hF => ?_;refine seq_one ?_;revert hF;refine qe1 fun a hF => ?_
    have hrc := recs_alloc StepE wr 71 [rawS (3) ((i : Int))] #[.int .i64 (3), .int .i64 ((i : Int)), .slice none 0 0] rfl
    have hba := Joins.below_alloc1 wr (.cells #[.int .i64 (3), .int .i64 ((i : Int)), .slice none 0 0] 71)
    obtain ⟨la8, c8, w2, hAPP, q4, f4, hP2, hT2, r4⟩ := HAM.out _ wr.heap.size hba hrc
    have HP2 := Lib.hid hP2
    have HT2 := Lib.hid hT2
    have R4 := Lib.hid r4
    clear hP2 hT2 hrc hba HAM r4
    refine seq_one ?_;refine op_append rfl rfl rfl rfl rfl hF rfl rfl rfl hAPP (fun a hF => ?_);clear hAPP;revert hF;refine zrc 9 [4, 4] [11] fun a hF => ?_;refine seq_one ?_;revert hF;refine qu2 fun a hF => ?_;refine seq_end ?_;replace hF := hF.kp [5] rfl
    clear q4 f4 b4
    generalize w2.setCell ⟨A.wb, 4, none⟩ (.slice la8 (T.length + 1) c8) = w3 at *
    refine hK _ _ ?_;clear hK;revert hF;refine zrs [1, 2] [4] fun a hF => ?_
    rw [hst]
    refine wp_ret ?_;(try simp only [then_ret, block_ret, goto_ret]);revert hF;refine zq ?_
    exact ⟨rfl, HP2.out, HTr.out.trans HT2.out⟩
   have hq : decide (x < 0) = false := by simpa using hneg
   revert hF;refine zrs [1, 1, 5, 4, 4] [0, 1, 5, 6, 7, 8, 10, 11, 103] fun a hF => ?_
   clear hq
   refine cond_no hF rfl ?_
   refine wp_skip ?_
   refine hK _ _ ?_;clear hK
   have hws : IntKind.i64.wrap (sm + x) = sm + x := wrap_in (by omega) (by omega)
   revert hF;refine zrg [1, 1, 1, 5, 4, 5, 2] [0, 1, 5, 6, 7, 8, 10, 11] fun a hF => ?_
   clear r0 hws
   rw [← HR6.out] at hF
   exact hKCj _ _ ⟨hF.sub ⟨rfl, rfl, rfl, rfl, rfl, rfl, rfl, rfl, trivial⟩, HS, HNX.out hneg⟩
  clear hF HS0  HNG0
  rintro a w8 ⟨hF, HS, HNG⟩
  have HNN : Hid (L.findIdx? negP = none) := neg_none fun j hj => HNG.out j hj (by rw [← HLN.out]; exact hj)
  have hsr := sum_range (fun r hr => (HLR.out r hr).2) L.length (Nat.le_refl _) (fun j hj h => HNG.out j hj (by rw [← HLN.out]; exact hj))
  have hts : L.take R.length = L := by rw [← HLN.out, List.take_length]
  rw [hts] at hF
  clear hts
  rw [List.take_length] at hsr
  have hLn := HLN.out
  clear HNG
  have HB8 := Lib.hid HS.out.1
  have HRB := Lib.hid HS.out.2
  clear HS
  obtain ⟨gd, hgd⟩ : ∃ gd, gd = gaD A.ga g A.gc := ⟨_, rfl⟩
  have HPD : Hid (∀ wx, Below w.heap.size w wx → Pairs wx gd (A.m - g) (A.G.drop g)) := fun wx hb => by
   rw [hgd]
   exact pairs_drop (HGP.out _ hb) hgc (by omega)
  have hsl : ∀ wx, (Instr.slice 23 (.slice A.ga A.m A.gc) (some (.int .i64 (g : Int))) none none).run Tryz.prog wx = .ok (.slice gd (A.m - g) (A.gc - g)) wx := fun wx => by
   rw [hgd]
   exact run_drop wx A.ga A.m A.gc g hgc (by omega)
  clear hgd
  have p1 := boxed_cell (j := 1) ((HB8.out.block A.wb (lt_of_block HWB.out)).trans HWB.out) rfl
  refine wp_seq_k (fun K hK => ?_);revert hF;refine zrp [1, 4, 4, 4, 4, 1, 4, 5, 4] [9, 10] fun a hF => ?_;refine seq_one ?_;revert hF;refine qe0 fun a hF => ?_
  obtain ⟨wa, gr, hwa, hgv, hSV, HTW⟩ := var_new w8 25 #[.slice none 0 0, .slice none 0 0, .bool false] #[.slice none 0 0, .slice gd (A.m - g) (A.gc - g), .bool false] (by kernel_rfl) rfl (by simp [Value.oneCell'])
  rw [hwa]
  rw [← hgv] at hF
  clear hwa hgv
  refine seq_one ?_;refine op_storev rfl rfl hF rfl rfl rfl rfl hSV ?_;clear hF;refine fun a hF => ?_
  clear hSV
  refine hK _ _ ?_;clear hK
  generalize wa.setRow gr #[.slice none 0 0, .slice gd (A.m - g) (A.gc - g), .bool false] = w9 at *
  clear p1 hsl
  have HB9 := Lib.hid (HB8.out.trans (HTW.out.1.mono HB8.out.size))
  have HRB9 : Hid (w9.ownsRow w.heap.size 3 1 (.slice rla R.length rlc) R.length (flat IntE (L.map (·.1))) ∧ BoolRow w9 gb 4 (L.map (·.2)) ∧ w.heap.size ≤ gb) := ⟨row_of_heap HRB.out.1 fun b hb => HTW.out.1.block b (HRB.out.1.lt b hb).2, bool_below HRB.out.2.1 HTW.out.1, HRB.out.2.2⟩
  have HRR : Hid (w9.heap[gr]? = some (.cells #[.slice none 0 0, .slice gd (A.m - g) (A.gc - g), .bool false] 25 (0, 0)) ∧ w.heap.size ≤ gr) := ⟨HTW.out.2.1, Nat.le_trans HB8.out.size HTW.out.2.2⟩
  clear HTW HB8 HRB
  generalize hsmL : sumL L = sm at *
  have HSM : Hid (restR L = if 0 < sm then [sm] else []) := by
   show _ = _
   unfold restR
   rw [hsmL]
  have HSML := Lib.hid hsmL
  clear hsmL
  refine seq_cut (fun a' w' => ∃ rxa rn rc, FrF 251 [] [(0, .pointer (some ⟨A.wb, 0, none⟩)), (1, .slice ca g cc), (5, .int .i64 (T.length : Nat)), (6, .slice rla R.length rlc), (7, .slice (some ⟨gb, 0, none⟩) R.length R.length), (8, .int .i64 gain), (12, .pointer (some ⟨gr, 0, none⟩))] a' ∧ Hid (Below w.heap.size w w' ∧ w'.ownsRow w.heap.size 3 1 (.slice rla R.length rlc) R.length (flat IntE (L.map (·.1))) ∧ BoolRow w' gb 4 (L.map (·.2)) ∧ w.heap.size ≤ gb) ∧ Hid (w'.heap[gr]? = some (.cells #[.slice rxa rn rc, .slice gd (A.m - g) (A.gc - g), .bool false] 25 (0, 0)) ∧ rn ≤ 1 ∧ Ints w' rxa rn (restR L))) (fun KU hKU => ?_) ?_
  ·
   by_cases hpos : 0 < sm
   ·
    have hq : decide (0 < sm) = true := by simpa using hpos
    have hrr : restR L = [sm] := by rw [HSM.out, if_pos hpos]
    rw [hrr] at hKU
    clear hrr
    refine wp_seq_k (fun KV hKV => ?_);revert hF;refine zrg [1, 4] [0, 1, 5, 6, 7, 8, 10, 12, 132] fun a hF => ?_
    clear hq
    refine hKV _ _ ?_;clear hKV
    refine cond_yes hF rfl ?_
    revert hF;refine zrp [1] [1, 2, 3] fun a hF => ?_;refine seq_one ?_;revert hF;refine qe1 fun a hF => ?_
    have hba := Joins.below_alloc1 w9 (.cells #[.int .i64 sm] 3)
    have HBa := Lib.hid (HB9.out.trans (hba.mono HB9.out.size))
    have HRBa : Hid ((w9.alloc (.cells #[.int .i64 sm] 3)).ownsRow w.heap.size 3 1 (.slice rla R.length rlc) R.length (flat IntE (L.map (·.1))) ∧ BoolRow (w9.alloc (.cells #[.int .i64 sm] 3)) gb 4 (L.map (·.2)) ∧ w.heap.size ≤ gb) := ⟨row_of_heap HRB9.out.1 fun b hb => hba.block b (HRB9.out.1.lt b hb).2, bool_below HRB9.out.2.1 hba, HRB9.out.2.2⟩
    have HR9 : Hid ((w9.alloc (.cells #[.int .i64 sm] 3)).heap[gr]? = some (.cells #[.slice none 0 0, .slice gd (A.m - g) (A.gc - g), .bool false] 25 (0, 0))) := (hba.block gr (lt_of_block HRR.out.1)).trans HRR.out.1
    have HI9 : Hid ((w9.alloc (.cells #[.int .i64 sm] 3)).heap[w9.heap.size]? = some (.cells #[.int .i64 sm] 3 (0, 0))) := heap_new _ _
    have hnr : w9.heap.size ≠ gr := by
     have := lt_of_block HRR.out.1
     omega
    clear hba HB9 HRB9
    generalize w9.alloc (.cells #[.int .i64 sm] 3) = wa at *
    generalize w9.heap.size = ib at *
    have q0 := boxed_cell (j := 0) HR9.out rfl
    have f0 := Joins.unfrozen_of_block HR9.out 0
    revert hF;refine zrc 2 [4] [3] fun a hF => ?_;refine seq_one ?_;revert hF;refine qu2 fun a hF => ?_
    clear q0 f0
    refine seq_end ?_;replace hF := hF.kp [0, 1, 5, 6, 7, 8, 12] rfl
    have ht := tupd_set (j := 0) HR9.out (.slice (some ⟨ib, 0, none⟩) 1 1)
    refine hKU _ _ ⟨some ⟨ib, 0, none⟩, 1, 1, hF.sub ⟨rfl, rfl, rfl, rfl, rfl, rfl, rfl, trivial⟩, ⟨HBa.out.setCell (by show _ ≤ gr; exact HRR.out.2) _, own_keepR HRBa.out.1 ht (by decide), bool_keep HRBa.out.2.1 ht (by decide), HRBa.out.2.2⟩, ?_, Nat.le_refl _, rfl, fun k hk => ?_⟩
    ·
     simp [World.setCell, Array.getElem?_modify, HR9.out]
    ·
     obtain rfl : k = 0 := by omega
     refine ⟨ib, 0, rfl, ?_⟩
     have hi := HI9.out
     rw [← Below.heap_setCell wa ⟨gr, 0, none⟩ (.slice (some ⟨ib, 0, none⟩) 1 1) ib (by dsimp only; omega)] at hi
     exact boxed_cell (j := 0) hi rfl
   ·
    have hq : decide (0 < sm) = false := by simpa using hpos
    have hrr : restR L = [] := by rw [HSM.out, if_neg hpos]
    rw [hrr] at hKU
    clear hrr
    refine wp_seq_k (fun KV hKV => ?_);revert hF;refine zrg [1, 4] [0, 1, 5, 6, 7, 8, 10, 12, 132] fun a hF => ?_
    clear hq
    refine hKV _ _ ?_;clear hKV
    refine cond_no hF rfl ?_
    refine wp_skip ?_
    exact hKU _ _ ⟨none, 0, 0, hF.sub ⟨rfl, rfl, rfl, rfl, rfl, rfl, rfl, trivial⟩, ⟨HB9.out, HRB9.out⟩, HRR.out.1, Nat.zero_le _, rfl, fun k hk => absurd hk (Nat.not_lt_zero _)⟩
  clear hF HB9 HRB9 HRR HSM
  rintro a w10 ⟨rxa, rn, rc, hF, HS, HRS⟩
  have hbd := below_d (Below.refl w10.heap.size w10)
  have HBd := Lib.hid (HS.out.1.trans (hbd.mono HS.out.1.size))
  have HRBd : Hid (w10.drew.ownsRow w.heap.size 3 1 (.slice rla R.length rlc) R.length (flat IntE (L.map (·.1))) ∧ BoolRow w10.drew gb 4 (L.map (·.2)) ∧ w.heap.size ≤ gb) := ⟨row_of_heap HS.out.2.1 fun _ _ => rfl, HS.out.2.2.1, HS.out.2.2.2⟩
  have HRd : Hid (w10.drew.heap[gr]? = some (.cells #[.slice rxa rn rc, .slice gd (A.m - g) (A.gc - g), .bool false] 25 (0, 0)) ∧ rn ≤ 1 ∧ Ints w10.drew rxa rn (restR L)) := ⟨HRS.out.1, HRS.out.2.1, HRS.out.2.2.below hbd⟩
  clear HS HRS hbd
  have hbr := restB_range HV.out g L
  have hgl := HGL.out
  obtain ⟨bn, hbn⟩ : ∃ x, x = restB A.G g L := ⟨_, rfl⟩
  rw [← hbn] at hbr
  have hbr2 : 0 ≤ bn ∧ bn ≤ 96000000 := by omega
  have HBN := Lib.hid hbn
  clear hbn hbr hgl
  have HBX : Hid (w10.drew.heap[A.wb]? = some _) := (HBd.out.block A.wb (lt_of_block HWB.out)).trans HWB.out
  have HSS : Hid (∀ w', Below w10.drew.heap.size w10.drew w' → True ∧ w'.cell? ⟨gr, 0, none⟩ = some (.slice rxa rn rc) ∧ w'.cell? ⟨gr, 1, none⟩ = some (.slice gd (A.m - g) (A.gc - g)) ∧ w'.cell? ⟨gr, 2, none⟩ = some (.bool false) ∧ w'.cell? ⟨A.wb, 3, none⟩ = some (.int .i64 A.val)) := fun w' hb =>
   ⟨trivial, Below.cell_of hb (boxed_cell (j := 0) HRd.out.1 rfl), Below.cell_of hb (boxed_cell (j := 1) HRd.out.1 rfl), Below.cell_of hb (boxed_cell (j := 2) HRd.out.1 rfl), Below.cell_of hb (boxed_cell (j := 3) HBX.out rfl)⟩
  have hws : IntKind.i64.wrap (gain + bn) = gain + bn := wrap_in (by omega) (by omega)
  refine wp_seq_k (fun K hK => ?_);refine wp_seq_k (fun K hK => ?_);refine region_any (by kernel_rfl) ?_;generalize w10.drew = wd at *;revert hF;refine zhc (fuel := 3) (fun w' => True ∧ w'.cell? ⟨gr, 0, none⟩ = some (.slice rxa rn rc) ∧ w'.cell? ⟨gr, 1, none⟩ = some (.slice gd (A.m - g) (A.gc - g)) ∧ w'.cell? ⟨gr, 2, none⟩ = some (.bool false) ∧ w'.cell? ⟨A.wb, 3, none⟩ = some (.int .i64 A.val)) (HSS.out _ (Below.refl _ _)) [1, 19, 65, 88, 104, 115] fun a hF => ?_;refine held_one (n := 2) (fuel := 2) (by kernel_rfl) ?_;revert hF;refine zoc fun K hK => ?_
  refine (refBound_any rxa gd rn rc (A.m - g) (A.gc - g) false (restR L) (A.G.drop g) wd (by have := HRd.out.2.1; omega) (by omega) HRd.out.2.2 (HPD.out wd HBd.out)).mono ?_
  rintro e w11 ⟨rfl, hb11⟩
  have hbe : boundS (restR L) (A.G.drop g) = bn := HBN.out.symm
  rw [hbe]
  refine hK _ _ (fun a hF => ⟨?_, ?_⟩)
  ·
   intro _
   exact HSS.out _ hb11
  clear hK K
  have HB11 := Lib.hid (HBd.out.trans (hb11.mono HBd.out.size))
  have HRB11 : Hid (w11.ownsRow w.heap.size 3 1 (.slice rla R.length rlc) R.length (flat IntE (L.map (·.1))) ∧ BoolRow w11 gb 4 (L.map (·.2)) ∧ w.heap.size ≤ gb) := ⟨row_of_heap HRBd.out.1 fun b hb => hb11.block b (HRBd.out.1.lt b hb).2, bool_below HRBd.out.2.1 hb11, HRBd.out.2.2⟩
  have HSS11 := Lib.hid (HSS.out _ hb11)
  clear hbe hb11 HSS HRd HBX HRBd HBd
  have HM11 := Lib.hid (HM.out.down HB11.out)
  have HT11 : Hid (TUpd WrkT w w11) := TUpd.of_below HB11.out
  by_cases hbnd : gain + bn ≤ A.val
  ·
   have hq : decide (gain + bn ≤ A.val) = true := by simpa using hbnd
   revert hF;refine zhg (fuel := 0) HSS11.out [56, 136] fun a hF => ?_;refine held_end (by kernel_rfl) ?_;replace hF := hF.kp [0, 1, 5, 6, 7, 144] rfl
   clear hq hws HSS11
   refine hK _ _ ?_;clear hK
   refine cond_yes hF rfl ?_
   have hst : stpF A.G A.val (k + 1) g L gain T.length = [⟨2, 0, []⟩] := stp_bound HNN.out (by rw [← HBN.out]; exact hbnd)
   obtain ⟨la9, c9, hbx9, hAM⟩ := wadd_mem (k := 2) (g := 0) (gs := w11.heap.size) HM11.out (by omega)
   have HAM := Lib.hid hAM
   clear hAM
   have b4 := boxed_cell (j := 4) hbx9 rfl
   clear hbx9
   refine wp_seq_k (fun K hK => ?_);revert hF;refine zrp [1, 1, 4, 4, 4, 3] [6, 7, 8, 9, 10] fun a hF => ?_;refine seq_one ?_;revert hF;refine qe1 fun a hF => ?_
   have hrc := recs_alloc StepE w11 71 [rawS (2) (0)] #[.int .i64 (2), .int .i64 (0), .slice none 0 0] rfl
   have hba := Joins.below_alloc1 w11 (.cells #[.int .i64 (2), .int .i64 (0), .slice none 0 0] 71)
   obtain ⟨la8, c8, w2, hAPP, q4, f4, hP2, hT2, r4⟩ := HAM.out _ w11.heap.size hba hrc
   have HP2 := Lib.hid hP2
   have HT2 := Lib.hid hT2
   have R4 := Lib.hid r4
   clear hP2 hT2 hrc hba HAM r4
   refine seq_one ?_;refine op_append rfl rfl rfl rfl rfl hF rfl rfl rfl hAPP (fun a hF => ?_);clear hAPP;revert hF;refine zrc 8 [4, 4] [10] fun a hF => ?_;refine seq_one ?_;revert hF;refine qu2 fun a hF => ?_;refine seq_end ?_;replace hF := hF.kp [5] rfl
   clear q4 f4 b4
   generalize w2.setCell ⟨A.wb, 4, none⟩ (.slice la8 (T.length + 1) c8) = w12 at *
   refine hK _ _ ?_;clear hK;revert hF;refine zrs [1, 2] [4] fun a hF => ?_
   rw [hst]
   refine wp_ret ?_;(try simp only [then_ret, block_ret, goto_ret]);revert hF;refine zq ?_
   exact ⟨rfl, HP2.out, HT11.out.trans HT2.out⟩
  have hq : decide (gain + bn ≤ A.val) = false := by simpa using hbnd
  revert hF;refine zhg (fuel := 0) HSS11.out [56, 136] fun a hF => ?_;refine held_end (by kernel_rfl) ?_;replace hF := hF.kp [0, 1, 5, 6, 7, 144] rfl
  clear hq hws HSS11
  refine hK _ _ ?_;clear hK
  refine cond_no hF rfl ?_
  refine wp_skip ?_
  refine hK _ _ ?_;clear hK
  have p1 := boxed_cell (j := 1) ((HB11.out.block A.wb (lt_of_block HWB.out)).trans HWB.out) rfl
  have hq2 : ((g : Int) == (A.m : Int)) = false := by simpa using (by omega : ¬ (g : Int) = (A.m : Int))
  refine wp_seq_k (fun K hK => ?_);revert hF;refine zrs [1, 4, 1, 4, 4, 4, 4, 4, 5] [0, 1, 5, 6, 7, 164] fun a hF => ?_
  clear p1 hq2
  refine cond_no hF rfl ?_
  refine wp_skip ?_
  refine hK _ _ ?_;clear hK
  have hst : stpF A.G A.val (k + 1) g L gain T.length = ⟨1, (g : Int), (kidsU A.G A.val k g L gain T.length (L.length + 1)).2⟩ :: (kidsU A.G A.val k g L gain T.length (L.length + 1)).1 := stp_succ HNN.out (by rw [← HBN.out]; exact hbnd)
  rw [hst] at hT ⊢
  rw [List.length_cons] at hT
  clear hst
  have HOC11 := Lib.hid (HC0.out.below HB11.out)
  clear HRB11 HB11 HPD HBN HSML
  obtain ⟨la9, c9, hbx9, hAM⟩ := wadd_mem (k := 1) (g := (g : Int)) (gs := w11.heap.size) HM11.out (by omega)
  have HAM := Lib.hid hAM
  clear hAM
  have b4 := boxed_cell (j := 4) hbx9 rfl
  clear hbx9
  refine wp_seq_k (fun K hK => ?_);revert hF;refine zrp [1, 1, 4, 4, 4, 1, 4, 4] [8, 9, 10, 11, 12] fun a hF => ?_;refine seq_one ?_;revert hF;refine qe1 fun a hF => ?_
  have hrc := recs_alloc StepE w11 71 [rawS (1) ((g : Int))] #[.int .i64 (1), .int .i64 ((g : Int)), .slice none 0 0] rfl
  have hba := Joins.below_alloc1 w11 (.cells #[.int .i64 (1), .int .i64 ((g : Int)), .slice none 0 0] 71)
  obtain ⟨la8, c8, w2, hAPP, q4, f4, hP2, hT2, r4⟩ := HAM.out _ w11.heap.size hba hrc
  have HP2 := Lib.hid hP2
  have HT2 := Lib.hid hT2
  have R4 := Lib.hid r4
  clear hP2 hT2 hrc hba HAM r4
  refine seq_one ?_;refine op_append rfl rfl rfl rfl rfl hF rfl rfl rfl hAPP (fun a hF => ?_);clear hAPP;revert hF;refine zrc 10 [4, 4] [12] fun a hF => ?_;refine seq_one ?_;revert hF;refine qu2 fun a hF => ?_;refine seq_end ?_;replace hF := hF.kp [0, 1, 5, 6] rfl
  clear q4 f4 b4
  generalize w2.setCell ⟨A.wb, 4, none⟩ (.slice la8 (T.length + 1) c8) = w14 at *
  refine hK _ _ ?_;clear hK
  have HCG : Hid (C.length = g) := HC0.out.1
  have HGS : Hid (0 ≤ gs A.G g ∧ 0 ≤ gs A.G g * gv A.G g) := by
   have := HV.out g (by rw [HGL.out]; omega)
   exact ⟨by omega, Int.mul_nonneg (by omega) (by omega)⟩
  have HS0 : Hid (WrkM wI w14 A (T ++ ⟨1, (g : Int), []⟩ :: (kidsU A.G A.val k g L gain T.length 0).1) (fun b => X b ∨ (Value.slice none 0 0).ownBlock = some b) ∧ TUpd WrkT w w14 ∧ OwnRecs IntE w14 wI.heap.size 3 ca g C) := ⟨HP2.out.other fun b _ hb => hb.elim id (fun h => by cases h), HT11.out.trans HT2.out, HOC11.out.tupd HT2.out (by decide)⟩
  have HR0 : Hid (w14.ownsRow w.heap.size 3 1 (.slice none 0 0) 0 ((kidsU A.G A.val k g L gain T.length 0).2.map (Value.int .i64))) := nil_row
  clear HP2 HT2 HOC11 HM11 HT11 R4
  revert hF;refine zrs [2] [0, 1, 5, 6, 14] fun a hF => ?_
  refine seq_cut (fun a' w' => ∃ v : Value, FrF 251 [] [(0, .pointer (some ⟨A.wb, 0, none⟩)), (1, .slice ca g cc), (5, .int .i64 (T.length : Nat)), (6, .slice rla R.length rlc), (14, v)] a' ∧ Hid (WrkM wI w' A (T ++ ⟨1, (g : Int), []⟩ :: (kidsU A.G A.val k g L gain T.length (R.length + 1)).1) (fun b => X b ∨ v.ownBlock = some b) ∧ TUpd WrkT w w' ∧ OwnRecs IntE w' wI.heap.size 3 ca g C) ∧ Hid (w'.ownsRow w.heap.size 3 1 v (R.length + 1) ((kidsU A.G A.val k g L gain T.length (R.length + 1)).2.map (Value.int .i64)))) (fun KAq hKAq => ?_) ?_
  ·
   skip
   revert hF;refine zrs [2] [0, 1, 5, 6, 14, 15] fun a hF => ?_
   refine wp_block ?_
   refine loop_fr (fun qq a' w' => ∃ i : Nat, i + qq = (R.length + 1) ∧ ∃ v : Value, FrF 251 [] [(0, .pointer (some ⟨A.wb, 0, none⟩)), (1, .slice ca g cc), (5, .int .i64 (T.length : Nat)), (6, .slice rla R.length rlc), (14, v), (15, .int .i64 i)] a' ∧ Hid (WrkM wI w' A (T ++ ⟨1, (g : Int), []⟩ :: (kidsU A.G A.val k g L gain T.length i).1) (fun b => X b ∨ v.ownBlock = some b) ∧ TUpd WrkT w w' ∧ OwnRecs IntE w' wI.heap.size 3 ca g C) ∧ Hid (w'.ownsRow w.heap.size 3 1 v i ((kidsU A.G A.val k g L gain T.length i).2.map (Value.int .i64)))) ((R.length + 1)) ⟨0, by omega, _, hF, HS0, HR0⟩ ?_
   clear hF HS0  HR0
   rintro rkq a wr ⟨i, hikq, v, hF, HS, HR⟩ KBq hKBq
   refine wp_seq_k (fun K hK => ?_)
   by_cases hlt : i < (R.length + 1)
   rotate_left
   ·
    have hlti : ¬ (i : Int) ≤ (R.length : Nat) := by omega
    obtain ⟨la7, c7, hbx7⟩ := HS.out.1.openS
    have b5 := boxed_cell (j := 5) hbx7 rfl
    revert hF;refine zrs [1, 1, 4, 5, 1, 0, 0, 0, 0, 0, 5] [0, 1, 5, 6, 14, 15, 223] fun a hF => ?_
    clear b5 hbx7
    refine cond_no hF rfl ?_
    refine wp_exit ?_
    have hie : i = R.length + 1 := by omega
    rw [hie] at HS HR
    exact hKAq _ _ ⟨_, hF.sub ⟨rfl, rfl, rfl, rfl, rfl, trivial⟩, HS, HR⟩
   have hlti : (i : Int) ≤ (R.length : Nat) := by omega
   obtain ⟨la7, c7, hbx7⟩ := HS.out.1.openS
   have b5 := boxed_cell (j := 5) hbx7 rfl
   revert hF;refine zrs [1, 1, 4, 5, 1, 1, 4, 4, 4, 4, 5] [0, 1, 5, 6, 14, 15, 223] fun a hF => ?_
   clear b5 hbx7
   refine cond_yes hF rfl ?_
   refine wp_skip ?_
   refine hK _ _ ?_;clear hK;replace hF := hF.kp [0, 1, 5, 6, 14, 15] rfl
   clear hKAq
   refine seq_cut (fun a' w' => ∃ v : Value, FrF 251 [] [(0, .pointer (some ⟨A.wb, 0, none⟩)), (1, .slice ca g cc), (5, .int .i64 (T.length : Nat)), (6, .slice rla R.length rlc), (14, v), (15, .int .i64 i)] a' ∧ Hid (WrkM wI w' A (T ++ ⟨1, (g : Int), []⟩ :: (kidsU A.G A.val k g L gain T.length (i + 1)).1) (fun b => X b ∨ v.ownBlock = some b) ∧ TUpd WrkT w w' ∧ OwnRecs IntE w' wI.heap.size 3 ca g C) ∧ Hid (w'.ownsRow w.heap.size 3 1 v (i + 1) ((kidsU A.G A.val k g L gain T.length (i + 1)).2.map (Value.int .i64)))) (fun KCq hKCq => ?_) ?_
   rotate_left
   ·
    clear hF HS HR
    rintro a w' ⟨v, hF, HS, HR⟩
    have hws : IntKind.i64.wrap ((i : Int) + 1) = ((i + 1 : Nat) : Int) := wrap_succ (by omega)
    revert hF;refine zrg [1, 4, 2] [0, 1, 5, 6, 14, 15] fun a hF => ?_
    exact hKBq ((R.length + 1) - (i + 1)) _ _ (by omega) ⟨i + 1, by omega, _, hF, HS, HR⟩
   clear hKBq hikq
   refine wp_block ?_
   have hmo := kidsU_mono (G := A.G) (val := A.val) (k := k) (g := g) (L := L) (gain := gain) (base := T.length) (r := i + 1) (N := L.length + 1) (by rw [HLN.out]; omega)
   revert hF;refine zrs [1, 2] [0, 1, 5, 6, 14, 15, 16] fun a hF => ?_
   refine seq_cut (fun a' w' => FrF 251 [] [(0, .pointer (some ⟨A.wb, 0, none⟩)), (1, .slice ca g cc), (5, .int .i64 (T.length : Nat)), (6, .slice rla R.length rlc), (14, v), (15, .int .i64 i), (16, .int .i64 (if i = R.length then -1 else (i : Int)))] a' ∧ wr = w') (fun KK hKK => ?_) ?_
   ·
    by_cases hie : i = R.length
    ·
     have hq : ((i : Int) == (R.length : Int)) = true := by simpa using (by omega : (i : Int) = (R.length : Int))
     rw [if_pos hie] at hKK
     refine wp_seq_k (fun KV hKV => ?_);revert hF;refine zrg [1, 1, 4, 5] [0, 1, 5, 6, 14, 15, 16, 230] fun a hF => ?_
     clear hq
     refine hKV _ _ ?_;clear hKV
     refine cond_yes hF rfl ?_
     revert hF;refine zrg [2] [0, 1, 5, 6, 14, 15, 16] fun a hF => ?_
     exact hKK _ _ ⟨hF.sub ⟨rfl, rfl, rfl, rfl, rfl, rfl, rfl, trivial⟩, rfl⟩
    ·
     have hq : ((i : Int) == (R.length : Int)) = false := by simpa using (by omega : ¬ (i : Int) = (R.length : Int))
     rw [if_neg hie] at hKK
     refine wp_seq_k (fun KV hKV => ?_);revert hF;refine zrg [1, 1, 4, 5] [0, 1, 5, 6, 14, 15, 16, 230] fun a hF => ?_
     clear hq
     refine hKV _ _ ?_;clear hKV
     refine cond_no hF rfl ?_
     refine wp_skip ?_
     exact hKK _ _ ⟨hF.sub ⟨rfl, rfl, rfl, rfl, rfl, rfl, rfl, trivial⟩, rfl⟩
   clear hF
   rintro a w' ⟨hF, rfl⟩
   obtain ⟨kv, hkv⟩ : ∃ x : Int, x = if i = R.length then -1 else (i : Int) := ⟨_, rfl⟩
   rw [← hkv] at hF
   obtain ⟨X1, hX1⟩ : ∃ x, x = (kidsU A.G A.val k g L gain T.length i).1 := ⟨_, rfl⟩
   obtain ⟨K1, hK1⟩ : ∃ x, x = (kidsU A.G A.val k g L gain T.length i).2 := ⟨_, rfl⟩
   rw [← hX1] at HS
   rw [← hK1] at HR
   obtain ⟨T1, hT1⟩ : ∃ x, x = T ++ (⟨1, (g : Int), []⟩ : StepT) :: X1 := ⟨_, rfl⟩
   have hlen1 : T1.length = T.length + 1 + X1.length := by rw [hT1, List.length_append, List.length_cons]; omega
   rw [← hT1] at HS
   have hki := kid_at (R := R) (C := C) (L := L) (G := A.G) (gain := gain) (val := A.val) (single := A.single) (k := k) (g := g) (base := T.length) hkv HCG.out HLE.out HGE.out HLN.out (by omega) HCR.out HMO.out HGS.out HNN.out
   rw [← hX1, ← hK1, ← hlen1] at hki
   obtain ⟨hk1, hk2, hk3, hk4⟩ := hki
   obtain ⟨NW, hNW⟩ : ∃ x, x = stpF A.G A.val k (g + 1) (stL R A.G (ix (C ++ [kv])) (g + 1)) (valS A.G (dec (ix (C ++ [kv])) (g + 1))) T1.length := ⟨_, rfl⟩
   rw [← hNW] at hk1
   rw [hk1] at hmo hKCq
   dsimp only at hmo hKCq
   rw [List.length_append] at hmo
   have HK2 := Lib.hid hk2
   have HK3 := Lib.hid hk3
   have HK4 := Lib.hid hk4
   have HNW := Lib.hid hNW
   have HT1E := Lib.hid hT1
   have hn1 : T1.length + NW.length ≤ 99999 := by omega
   clear hk1 hk2 hk3 hk4 hX1 hK1 hkv hNW hT1 hmo hlen1
   have hwz : w.heap.size ≤ wr.heap.size := HS.out.2.1.size
   have A0 := Lib.hid (AS.start (E := IntE) (T := 3) (a := kv) wr.heap.size wr (Nat.le_refl _))
   revert hF;refine zrp [1, 1] [2, 3, 4, 5, 6, 7, 8, 9, 10, 11] fun a hF => ?_;refine seq_one ?_;revert hF;refine qe0 fun a hF => ?_
   have A1 := Lib.hid A0.out.lit
   clear A0
   obtain ⟨g0, hg0⟩ : ∃ x, x = wr.heap.size := ⟨_, rfl⟩
   have A1 : Hid (AS IntE 3 wr wr.heap.size kv (wr.alloc (.cells #[] 3)) (some (.slice (some ⟨g0, 0, none⟩) 0 0, [])) none) := by rw [hg0]; exact A1.out
   generalize wr.alloc (.cells #[] 3) = wa1 at *
   rw [← hg0] at hF
   clear hg0
   obtain ⟨la1, lc1, wa2, hAPP, hA2⟩ := A1.out.app 22 22 (u := .slice ca g cc) Tryz.underlying22 info_int rfl (by decide) (ints_rcsM (recs_ints' (HS.out.2.2.below A1.out.below).recs) hcc) (D' := C) rfl (by rw [HCG.out]; omega)
   rw [HCG.out] at hAPP hA2
   have A2 := Lib.hid hA2
   clear hA2 A1
   revert hF;refine zrc 3 [1] [4, 5, 6, 7, 8, 9, 10, 11] fun a hF => ?_;refine seq_one ?_;refine op_append rfl rfl rfl rfl rfl hF rfl rfl rfl hAPP (fun a hF => ?_);clear hAPP;revert hF;refine zrc 5 [1] [6, 7, 8, 9, 10, 11] fun a hF => ?_;refine seq_one ?_;revert hF;refine qe1 fun a hF => ?_
   have A3 := Lib.hid (A2.out.one (arr := #[.int .i64 kv]) rfl)
   clear A2
   generalize wa2.alloc (.cells #[.int .i64 kv] 3) = wa3 at *
   obtain ⟨g1, hg1⟩ : ∃ x, x = wa2.heap.size := ⟨_, rfl⟩
   rw [← hg1] at hF A3
   clear hg1
   rw [← HCG.out] at A3
   obtain ⟨la2, lc2, wa4, hAPP, hA4⟩ := A3.out.app 22 22 Tryz.underlying22 info_int rfl (by decide) A3.out.rcs (D' := C ++ [kv]) rfl (by rw [List.length_append, HCG.out, List.length_singleton]; omega)
   have hcl : (C ++ [kv]).length = g + 1 := by rw [List.length_append, HCG.out]; rfl
   rw [hcl] at hAPP hA4
   rw [HCG.out] at hAPP
   have A4 := Lib.hid hA4
   clear hA4 A3
   refine seq_one ?_;refine op_append rfl rfl rfl rfl rfl hF rfl rfl rfl hAPP (fun a hF => ?_);clear hAPP;revert hF;refine zos fun K hK => ?_
   have HOW : Hid (OwnRecs IntE wa4 wI.heap.size 3 la2 (g + 1) (C ++ [kv]) ∧ (la2 = none → lc2 = 0)) := by
    have h9 := A4.out.own _ _ rfl
    rw [hcl] at h9
    obtain ⟨la', lc', e, hor⟩ := OwnRecs.of_row h9
    cases e
    refine ⟨⟨hor.1, fun h => ?_⟩, fun e => ?_⟩
    ·
     obtain ⟨g', e, hB, hr⟩ := hor.2 h
     exact ⟨g', e, Nat.le_trans HSZ.out (Nat.le_trans hwz hB), hr⟩
    ·
     obtain ⟨g', e', _⟩ := hor.2 (by omega)
     rw [e] at e'
     cases e'
   have HM4 := Lib.hid (HS.out.1.down A4.out.below)
   have HB4 : Hid (Below wr.heap.size wr wa4) := A4.out.below
   clear A4
   refine (HIH.out (g + 1) (C ++ [kv]) wa4 la2 lc2 T1 (fun b => X b ∨ v.ownBlock = some b) (by omega) HK3.out HOW.out.1 HOW.out.2 HM4.out (fun bb hb => ?_) HK4.out (by rw [← HNW.out]; exact hn1)).mono ?_
   ·
    have hs4 := HB4.out.size
    rcases hb with hb | hb
    ·
     exact Nat.lt_of_lt_of_le (HX.out bb hb) (Nat.le_trans hwz hs4)
    ·
     exact Nat.lt_of_lt_of_le (HR.out.lt bb hb).2 hs4
   rw [← HNW.out]
   rintro e w7 ⟨rfl, hp7, ht7⟩
   have HT7 : Hid (TUpd WrkT w w7) := (HS.out.2.1.down HB4.out).trans ht7
   have HC7 : Hid (OwnRecs IntE w7 wI.heap.size 3 ca g C) := (HS.out.2.2.below HB4.out).tupd ht7 (by decide)
   have HR7 : Hid (w7.ownsRow w.heap.size 3 1 v i (K1.map (Value.int .i64))) := own_keepR (row_of_heap HR.out fun b hb => HB4.out.block b (HR.out.lt b hb).2) ht7 (by decide)
   have HM7 := Lib.hid hp7
   clear hp7 ht7 HS HR HM4 HOW HB4
   refine hK _ _ (fun a hF => ?_);clear hK K;refine seq_one ?_;revert hF;refine qe1 fun a hF => ?_
   obtain ⟨v', w9, hAPP, ho9, hp9, ht9, hti9, hg9⟩ := wkid_mem (x := (T1.length : Int)) HM7.out HR7.out (by omega) HSZ.out HT7.out
   have hc9 : OwnRecs IntE w9 wI.heap.size 3 ca g C := (HC7.out.below (Joins.below_alloc1 w7 _)).grown (fun b e hn => HC0.out.lt b e hn) hg9 (fun b hb => (HR7.out.lt b hb).1)
   have he : T1 ++ NW = T ++ (⟨1, (g : Int), []⟩ : StepT) :: (X1 ++ NW) := by
    rw [HT1E.out]
    simp
   rw [he] at hp9
   have HS9 : Hid (WrkM wI w9 A (T ++ (⟨1, (g : Int), []⟩ : StepT) :: (X1 ++ NW)) (fun b => X b ∨ v'.ownBlock = some b) ∧ TUpd WrkT w w9 ∧ OwnRecs IntE w9 wI.heap.size 3 ca g C) := ⟨hp9, ht9, hc9⟩
   have HR9 : Hid (w9.ownsRow w.heap.size 3 1 v' (i + 1) ((K1 ++ [(T1.length : Int)]).map (Value.int .i64))) := ho9
   clear hp9 ht9 hti9 hg9 hc9 ho9 he HM7 HR7 HT7 HC7
   refine seq_one ?_;refine op_append rfl rfl rfl rfl rfl hF rfl rfl rfl hAPP (fun a hF => ?_);clear hAPP;revert hF;refine zre 11 [2] [0, 1, 5, 6, 14, 15] fun a hF => ?_
   exact hKCq _ _ ⟨_, hF.sub ⟨rfl, rfl, rfl, rfl, rfl, rfl, trivial⟩, HS9, HR9⟩
  clear hF HS0  HR0
  rintro a w30 ⟨v, hF, HS, HR⟩
  rw [HLN.out] at hT ⊢
  obtain ⟨ka, kc, rfl, _⟩ := OwnRecs.of_row (E := IntE) (xs := (kidsU A.G A.val k g L gain T.length (R.length + 1)).2) (by rw [flat_int]; exact HR.out)
  have hkl : (kidsU A.G A.val k g L gain T.length (R.length + 1)).2.length = R.length + 1 := by
   have := HR.out.1
   simpa using this
  obtain ⟨X1, hX1⟩ : ∃ x, x = (kidsU A.G A.val k g L gain T.length (R.length + 1)).1 := ⟨_, rfl⟩
  obtain ⟨K1, hK1⟩ : ∃ x, x = (kidsU A.G A.val k g L gain T.length (R.length + 1)).2 := ⟨_, rfl⟩
  rw [← hX1] at HS hT ⊢
  rw [← hK1] at HR hkl ⊢
  clear hX1 hK1
  obtain ⟨gS, cS, old, hbx, hold, hfr, hp40, ht40⟩ := wkids_mem (gr := (g : Int)) (K := K1) (ka := ka) (kn := R.length + 1) (kc := kc) (B := w.heap.size) (X := X) (HS.out.1.other fun b _ hb => Or.inl hb) (by rw [hkl]; exact HR.out) hkl.symm HSZ.out (fun b hb hx => by
   have h1 := (HR.out.lt b hb).1
   have h2 := HX.out b hx
   omega)
  have p4 := boxed_cell (j := 4) hbx rfl
  have hni : (T.length : Int) < ((T ++ (⟨1, (g : Int), []⟩ : StepT) :: X1).length : Nat) := by
   simp only [List.length_append, List.length_cons]
   omega
  have HS40 : Hid (WrkM wI (w30.setCell ⟨gS, T.length * 3 + 2, none⟩ (.slice ka (R.length + 1) kc)) A (T ++ ⟨1, (g : Int), K1⟩ :: X1) X ∧ TUpd WrkT w (w30.setCell ⟨gS, T.length * 3 + 2, none⟩ (.slice ka (R.length + 1) kc))) := ⟨hp40, HS.out.2.1.trans ht40⟩
  clear hbx hp40 ht40 HS HR
  generalize (T ++ (⟨1, (g : Int), []⟩ : StepT) :: X1).length = nS at *
  refine wp_seq_k (fun K hK => ?_);revert hF;refine zrp [1, 4, 4, 4, 1, 1, 5, 4] [8] fun a hF => ?_;refine seq_one ?_;revert hF;refine qu2 fun a hF => ?_
  clear p4 hold hfr hni
  refine seq_end ?_;replace hF := hF.kp [5] rfl;refine hK _ _ ?_;clear hK
  generalize w30.setCell ⟨gS, T.length * 3 + 2, none⟩ (.slice ka (R.length + 1) kc) = w40 at *
  revert hF;refine zrs [1, 2] [4] fun a hF => ?_;refine wp_ret ?_;(try simp only [then_ret, block_ret, goto_ret]);revert hF;refine zq ?_
  exact ⟨rfl, HS40.out.1, HS40.out.2⟩
end Go.Proofs.YthabgljdndbphaaGreatDoor
