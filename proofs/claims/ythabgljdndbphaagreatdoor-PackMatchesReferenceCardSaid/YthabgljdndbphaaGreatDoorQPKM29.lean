/- pack.prove: the walk. -/
import Derived.Test.YthabgljdndbphaaGreatDoorQPKM28

set_option linter.unusedVariables false
set_option linter.unusedSimpArgs false
namespace Go.Proofs.YthabgljdndbphaaGreatDoor
open Go.RowKit Go.IntWalk Go.Maps Go.WideMaps
set_option linter.unusedSimpArgs false
set_option linter.unusedVariables false
set_option maxRecDepth 100000 in
set_option maxHeartbeats 32000000 in
theorem prove_any (wI : World) (A : PA) (hv : ValuesOk A.G) (hG : Pairs wI A.ga A.m A.G) (hm : A.m ≤ 8) (hgc : A.m ≤ A.gc) (n : Nat) (hn : n ≤ 40) (hval : 0 ≤ A.val ∧ A.val ≤ 1000000000) :
  ∀ (k g : Nat) (L : List (Int × Bool)) (gain : Int) (w : World) (la : Option Addr) (c : Nat) (T : List StepT) (X : Nat → Prop), g + k = A.m → L.length = n → OwnRecs RunE w wI.heap.size 63 la n L → (∀ r ∈ L, (12 * (k : Nat) : Int) - 1000 ≤ r.1 ∧ r.1 ≤ 4000) → 0 ≤ gain ∧ gain ≤ 12000000 * g → PrvM wI w A T X → (∀ b, X b → b < w.heap.size) → T.length ≤ 100000 →
  Calls Tryz.prog 25 #[.pointer (some ⟨A.wb, 0, none⟩), .int .i64 g, .slice la n c, .int .i64 gain, .func (.func 26) #[.pointer (some ⟨A.wb, 0, none⟩)] #[]] w (MakeP wI w A X T (stpF A.G A.val k g L gain T.length) T.length) := by
 intro k
 induction k with
 | zero =>
  intro g L gain w la c T X hgk hL hR hLR hgn hP hX hT
  subst hL
  have HR0 := Lib.hid hR
  have HLR := Lib.hid hLR
  have HV := Lib.hid hv
  have HG := Lib.hid hG
  have HX := Lib.hid hX
  have HS0 : Hid (PrvM wI w A T X ∧ TUpd PrvT w w ∧ OwnRecs RunE w wI.heap.size 63 la L.length L) := ⟨hP, TUpd.refl _ _, hR⟩
  have HGL : Hid (A.G.length = A.m) := hG.1
  have HWB : Hid (wI.heap.size ≤ w.heap.size) := hP.below.size
  have HNG0 : Hid (∀ j (hj : j < L.length), j < 0 → ¬ L[j].1 < 0) := fun j _ h => absurd h (Nat.not_lt_zero _)
  clear hR hLR hv hG hX hP HR0
  refine enter_fr (N := 135) [.pointer (some ⟨A.wb, 0, none⟩), .int .i64 g, .slice la L.length c, .int .i64 gain, .func (.func 26) #[.pointer (some ⟨A.wb, 0, none⟩)] #[]] (Tryz.func25) rfl Tryz.ntmps25 (by rfl) (fun a hF => ?_);replace hF := hF.kp [0, 1, 2, 3, 4] rfl;revert hF;refine zrs [2] [0, 1, 2, 3, 4] fun a hF => ?_;revert hF;refine zrs [2] [0, 1, 2, 3, 4, 11] fun a hF => ?_
  refine seq_cut (fun a' w' => FrF 135 [] [(0, .pointer (some ⟨A.wb, 0, none⟩)), (1, .int .i64 g), (2, .slice la L.length c), (3, .int .i64 gain), (4, .func (.func 26) #[.pointer (some ⟨A.wb, 0, none⟩)] #[]), (11, .int .i64 (sumL (L.take L.length)))] a' ∧ Hid (PrvM wI w' A T X ∧ TUpd PrvT w w' ∧ OwnRecs RunE w' wI.heap.size 63 la L.length L) ∧ Hid (∀ j (hj : j < L.length), j < L.length → ¬ L[j].1 < 0)) (fun KAi hKAi => ?_) ?_
  ·
   skip
   revert hF;refine zrs [1, 4, 1] [0, 1, 2, 3, 4, 11, 19, 20, 21] fun a hF => ?_
   refine wp_block ?_
   refine loop_fr (fun qi a' w' => ∃ i : Nat, i + qi = L.length ∧ FrF 135 [] [(0, .pointer (some ⟨A.wb, 0, none⟩)), (1, .int .i64 g), (2, .slice la L.length c), (3, .int .i64 gain), (4, .func (.func 26) #[.pointer (some ⟨A.wb, 0, none⟩)] #[]), (11, .int .i64 (sumL (L.take i))), (19, .slice la L.length c), (20, .int .i64 L.length), (21, .int .i64 i)] a' ∧ Hid (PrvM wI w' A T X ∧ TUpd PrvT w w' ∧ OwnRecs RunE w' wI.heap.size 63 la L.length L) ∧ Hid (∀ j (hj : j < L.length), j < i → ¬ L[j].1 < 0)) (L.length) ⟨0, by omega, hF, HS0, HNG0⟩ ?_
   clear hF HS0  HNG0
   rintro rki a wr ⟨i, hiki, hF, HS, HNG⟩ KBi hKBi
   by_cases hlt : i < L.length
   rotate_left
   ·
    have hlti : ¬ (i : Int) < (L.length : Nat) := by omega
    revert hF;refine zrs [5] [0, 1, 2, 3, 4, 11, 19, 20, 21, 22] fun a hF => ?_;refine wp_seq_k (fun K hK => ?_)
    refine cond_no hF rfl ?_
    refine wp_exit ?_
    have hie : i = L.length := by omega
    rw [hie] at hF HNG
    exact hKAi _ _ ⟨hF.sub ⟨rfl, rfl, rfl, rfl, rfl, rfl, trivial⟩, HS, HNG⟩
   have hlti : (i : Int) < (L.length : Nat) := by omega
   revert hF;refine zrs [5] [0, 1, 2, 3, 4, 11, 19, 20, 21, 22] fun a hF => ?_;refine wp_seq_k (fun K hK => ?_)
   refine cond_yes hF rfl ?_
   refine wp_skip ?_
   refine hK _ _ ?_;clear hK;replace hF := hF.kp [0, 1, 2, 3, 4, 11, 19, 20, 21] rfl
   clear hKAi
   refine seq_cut (fun a' w' => FrF 135 [] [(0, .pointer (some ⟨A.wb, 0, none⟩)), (1, .int .i64 g), (2, .slice la L.length c), (3, .int .i64 gain), (4, .func (.func 26) #[.pointer (some ⟨A.wb, 0, none⟩)] #[]), (11, .int .i64 (sumL (L.take (i + 1)))), (19, .slice la L.length c), (20, .int .i64 L.length), (21, .int .i64 i)] a' ∧ Hid (PrvM wI w' A T X ∧ TUpd PrvT w w' ∧ OwnRecs RunE w' wI.heap.size 63 la L.length L) ∧ Hid (∀ j (hj : j < L.length), j < (i + 1) → ¬ L[j].1 < 0)) (fun KCi hKCi => ?_) ?_
   rotate_left
   ·
    clear hF HS HNG
    rintro a w' ⟨hF, HS, HNG⟩
    have hws : IntKind.i64.wrap ((i : Int) + 1) = ((i + 1 : Nat) : Int) := wrap_succ (by omega)
    revert hF;refine zrg [4, 1] [0, 1, 2, 3, 4, 11, 19, 20, 21] fun a hF => ?_
    exact hKBi (L.length - (i + 1)) _ _ (by omega) ⟨i + 1, by omega, hF, HS, HNG⟩
   clear hKBi hiki
   refine wp_block ?_
   have hil : i < L.length := hlt
   have hri := HLR.out L[i] (List.getElem_mem hil)
   have hsn := sum_next hil
   rw [hsn] at hKCi
   clear hsn
   have hsr := sum_range (fun r hr => (HLR.out r hr).2) i (by omega) HNG.out
   have HFN : Hid (L[i].1 < 0 → L.findIdx? negP = some i) := fun h => neg_some hil h HNG.out
   have HNX : Hid (¬ L[i].1 < 0 → ∀ j (hj : j < L.length), j < i + 1 → ¬ L[j].1 < 0) := fun h j hj hji => by
    by_cases e : j = i
    ·
     subst e; exact h
    ·
     exact HNG.out j hj (by omega)
   obtain ⟨bb, oo, hla, c0, c1⟩ := run_at HS.out.2.2.recs i hlt hil
   have HLA := Lib.hid hla
   rw [hla] at hF
   have hii : (i : Int) < (L.length : Nat) := by omega
   obtain ⟨r, hr⟩ : ∃ r, r = L[i] := ⟨_, rfl⟩
   rw [← hr] at c0 c1 hri HFN HNX hKCi
   obtain ⟨sm, hsm⟩ : ∃ x, x = sumL (L.take i) := ⟨_, rfl⟩
   rw [← hsm] at hF hKCi hsr
   clear hr hla hsm
   refine wp_seq_k (fun K hK => ?_);revert hF;refine zrp [1, 5, 4] [3, 4, 5] fun a hF => ?_;refine seq_one ?_;revert hF;refine qe0 fun a hF => ?_
   obtain ⟨wa, gr, hwa, hgv, hSV, HTW⟩ := var_new wr 63 #[.int .i64 0, .bool false] #[.int .i64 r.1, .bool r.2] (by kernel_rfl) rfl (by simp [Value.oneCell'])
   rw [hwa]
   rw [← hgv] at hF
   clear hwa hgv
   revert hF;refine zrc 4 [2] [5] fun a hF => ?_;refine seq_one ?_;refine op_storev rfl rfl hF rfl rfl rfl rfl hSV ?_;clear hF;refine fun a hF => ?_
   clear hSV
   refine hK _ _ ?_;clear hK
   generalize wa.setRow gr #[.int .i64 r.1, .bool r.2] = w3 at *
   clear c0 c1
   have HS3 : Hid (PrvM wI w3 A T X ∧ TUpd PrvT w w3 ∧ OwnRecs RunE w3 wI.heap.size 63 la L.length L) := ⟨HS.out.1.down HTW.out.1, HS.out.2.1.down HTW.out.1, HS.out.2.2.below HTW.out.1⟩
   have r0 := boxed_cell (j := 0) HTW.out.2.1 rfl
   clear HS HTW
   refine wp_seq_k (fun K hK => ?_)
   by_cases hneg : r.1 < 0
   ·
    have hq : decide (r.1 < 0) = true := by simpa using hneg
    revert hF;refine zrs [4, 4, 4] [0, 1, 2, 3, 4, 11, 12, 13, 19, 20, 21, 28] fun a hF => ?_
    clear hq r0
    refine cond_yes hF rfl ?_
    have hfi := HFN.out hneg
    have hst : stpF A.G A.val 0 g L gain T.length = [⟨3, (i : Int), []⟩] := stp_neg hfi
    rw [hst]
    clear hfi hst
    refine wp_seq_k (fun K hK => ?_);revert hF;refine zrp [1, 1, 4] [3, 4] fun a hF => ?_;refine seq_one ?_;refine op_callvP [_] _ _ rfl rfl hF rfl rfl (by first | assumption | kernel_rfl) ⟨rfl, trivial⟩ (fun K hK => ?_);clear hF
    refine (add_any wI w3 A T 3 i X HS3.out.1 hT).mono ?_
    rintro e w4 (⟨hle, rfl, hp4, ht4⟩ | ⟨hgt, rfl, hb4, ht4⟩)
    ·
     refine hK.1 _ _ (fun a hF => ?_);clear hK K;revert hF;refine zre 4 [2] [10] fun a hF => ?_;refine hK _ _ ?_;clear hK;refine wp_ret ?_;(try simp only [then_ret, block_ret, goto_ret]);revert hF;refine zq ?_
     exact Or.inl ⟨hle, rfl, hp4, HS3.out.2.1.trans ht4⟩
    ·
     refine hK.2 _ _ (fun hF => ?_)
     simp only [then_panic, block_panic, goto_panic]
     exact panic_out hF (Or.inr ⟨hgt, rfl, hb4, HS3.out.2.1.trans ht4⟩)
   have hq : decide (r.1 < 0) = false := by simpa using hneg
   revert hF;refine zrs [4, 4, 4] [0, 1, 2, 3, 4, 11, 12, 13, 19, 20, 21, 28] fun a hF => ?_
   clear hq
   refine cond_no hF rfl ?_
   refine wp_skip ?_
   refine hK _ _ ?_;clear hK
   have hws : IntKind.i64.wrap (sm + r.1) = sm + r.1 := wrap_in (by omega) (by omega)
   revert hF;refine zrg [1, 4, 4, 5, 2] [0, 1, 2, 3, 4, 11, 19, 20, 21] fun a hF => ?_
   clear r0 hws
   rw [← HLA.out] at hF
   exact hKCi _ _ ⟨hF, HS3, HNX.out hneg⟩
  clear hF HS0  HNG0
  rintro a w7 ⟨hF, HS, HNG⟩
  have HNN : Hid (L.findIdx? negP = none) := neg_none fun j hj => HNG.out j hj hj
  have hsr := sum_range (fun r hr => (HLR.out r hr).2) L.length (Nat.le_refl _) HNG.out
  rw [List.take_length] at hF hsr
  obtain ⟨gd, hgd⟩ : ∃ gd, gd = gaD A.ga g A.gc := ⟨_, rfl⟩
  have HPD : Hid (∀ wx, Below wI.heap.size wI wx → Pairs wx gd (A.m - g) (A.G.drop g)) := fun wx hb => by
   rw [hgd]
   exact pairs_drop (HG.out.below hb) hgc (by omega)
  have hsl : ∀ wx, (Instr.slice 23 (.slice A.ga A.m A.gc) (some (.int .i64 (g : Int))) none none).run Tryz.prog wx = .ok (.slice gd (A.m - g) (A.gc - g)) wx := fun wx => by
   rw [hgd]
   exact run_drop wx A.ga A.m A.gc g hgc (by omega)
  clear hgd HNG
  obtain ⟨pv, pT, hbx, _⟩ := HS.out.1.box
  have p1 := boxed_cell (j := 1) hbx rfl
  clear hbx
  refine wp_seq_k (fun K hK => ?_);revert hF;refine zrp [1, 4, 4, 4, 4, 1, 5, 4] [8, 9] fun a hF => ?_;refine seq_one ?_;revert hF;refine qe0 fun a hF => ?_
  obtain ⟨wa, gr, hwa, hgv, hSV, HTW⟩ := var_new w7 25 #[.slice none 0 0, .slice none 0 0, .bool false] #[.slice none 0 0, .slice gd (A.m - g) (A.gc - g), .bool false] (by kernel_rfl) rfl (by simp [Value.oneCell'])
  rw [hwa]
  rw [← hgv] at hF
  clear hwa hgv
  refine seq_one ?_;refine op_storev rfl rfl hF rfl rfl rfl rfl hSV ?_;clear hF;refine fun a hF => ?_
  clear hSV
  refine hK _ _ ?_;clear hK
  generalize wa.setRow gr #[.slice none 0 0, .slice gd (A.m - g) (A.gc - g), .bool false] = w8 at *
  clear p1 hsl
  have HS8 : Hid (PrvM wI w8 A T X ∧ TUpd PrvT w w8 ∧ OwnRecs RunE w8 wI.heap.size 63 la L.length L) := ⟨HS.out.1.down HTW.out.1, HS.out.2.1.down HTW.out.1, HS.out.2.2.below HTW.out.1⟩
  have HRR : Hid (w8.heap[gr]? = some (.cells #[.slice none 0 0, .slice gd (A.m - g) (A.gc - g), .bool false] 25 (0, 0)) ∧ w.heap.size ≤ gr ∧ wI.heap.size ≤ gr) := ⟨HTW.out.2.1, Nat.le_trans HS.out.2.1.size HTW.out.2.2, Nat.le_trans HS.out.1.below.size HTW.out.2.2⟩
  clear HS HTW
  generalize hsmL : sumL L = sm at *
  have HSM : Hid (restR L = if 0 < sm then [sm] else []) := by
   show _ = _
   unfold restR
   rw [hsmL]
  clear hsmL
  refine seq_cut (fun a' w' => ∃ rla rn rc, FrF 135 [] [(0, .pointer (some ⟨A.wb, 0, none⟩)), (1, .int .i64 g), (2, .slice la L.length c), (3, .int .i64 gain), (4, .func (.func 26) #[.pointer (some ⟨A.wb, 0, none⟩)] #[]), (14, .pointer (some ⟨gr, 0, none⟩))] a' ∧ Hid (PrvM wI w' A T X ∧ TUpd PrvT w w' ∧ OwnRecs RunE w' wI.heap.size 63 la L.length L) ∧ Hid (w'.heap[gr]? = some (.cells #[.slice rla rn rc, .slice gd (A.m - g) (A.gc - g), .bool false] 25 (0, 0)) ∧ rn ≤ 1 ∧ Ints w' rla rn (restR L))) (fun KU hKU => ?_) ?_
  ·
   by_cases hpos : 0 < sm
   ·
    have hq : decide (0 < sm) = true := by simpa using hpos
    have hrr : restR L = [sm] := by rw [HSM.out, if_pos hpos]
    rw [hrr] at hKU
    clear hrr
    refine wp_seq_k (fun KV hKV => ?_);revert hF;refine zrg [1, 4] [0, 1, 2, 3, 4, 11, 14, 47] fun a hF => ?_
    clear hq
    refine hKV _ _ ?_;clear hKV
    refine cond_yes hF rfl ?_
    revert hF;refine zrp [1] [1, 2, 3] fun a hF => ?_;refine seq_one ?_;revert hF;refine qe1 fun a hF => ?_
    have hba := Joins.below_alloc1 w8 (.cells #[.int .i64 sm] 3)
    have HS9 : Hid (PrvM wI (w8.alloc (.cells #[.int .i64 sm] 3)) A T X ∧ TUpd PrvT w (w8.alloc (.cells #[.int .i64 sm] 3)) ∧ OwnRecs RunE (w8.alloc (.cells #[.int .i64 sm] 3)) wI.heap.size 63 la L.length L) := ⟨HS8.out.1.down hba, HS8.out.2.1.down hba, HS8.out.2.2.below hba⟩
    have HR9 : Hid ((w8.alloc (.cells #[.int .i64 sm] 3)).heap[gr]? = some (.cells #[.slice none 0 0, .slice gd (A.m - g) (A.gc - g), .bool false] 25 (0, 0))) := (hba.block gr (lt_of_block HRR.out.1)).trans HRR.out.1
    have HI9 : Hid ((w8.alloc (.cells #[.int .i64 sm] 3)).heap[w8.heap.size]? = some (.cells #[.int .i64 sm] 3 (0, 0))) := heap_new _ _
    have hnr : w8.heap.size ≠ gr := by
     have := lt_of_block HRR.out.1
     omega
    clear hba HS8
    generalize w8.alloc (.cells #[.int .i64 sm] 3) = w9 at *
    generalize w8.heap.size = ib at *
    have q0 := boxed_cell (j := 0) HR9.out rfl
    have f0 := Joins.unfrozen_of_block HR9.out 0
    revert hF;refine zrc 2 [4] [3] fun a hF => ?_;refine seq_one ?_;revert hF;refine qu2 fun a hF => ?_
    clear q0 f0
    refine seq_end ?_;replace hF := hF.kp [0, 1, 2, 3, 4, 14] rfl
    refine hKU _ _ ⟨some ⟨ib, 0, none⟩, 1, 1, hF.sub ⟨rfl, rfl, rfl, rfl, rfl, rfl, trivial⟩, ?_, ?_⟩
    ·
     have ht := tupd_set (j := 0) HR9.out (.slice (some ⟨ib, 0, none⟩) 1 1)
     have hb : Below wI.heap.size wI (w9.setCell ⟨gr, 0, none⟩ (.slice (some ⟨ib, 0, none⟩) 1 1)) := HS9.out.1.below.setCell (by show _ ≤ gr; exact HRR.out.2.2) _
     refine ⟨HS9.out.1.tupd hb ht (by decide) (by decide) (by decide), HS9.out.2.1.grownNew (r := some gr) ⟨ht.os, ht.tape, ht.output, ht.size, fun b hb hne => Below.heap_setCell _ _ _ _ (fun e => hne (by dsimp only at e; rw [e]))⟩ (fun k e => by cases e; exact HRR.out.2.1), HS9.out.2.2.tupd ht (by decide)⟩
    ·
     refine ⟨?_, Nat.le_refl _, rfl, fun k hk => ?_⟩
     ·
      simp [World.setCell, Array.getElem?_modify, HR9.out]
     ·
      obtain rfl : k = 0 := by omega
      refine ⟨ib, 0, rfl, ?_⟩
      have hi := HI9.out
      rw [← Below.heap_setCell w9 ⟨gr, 0, none⟩ (.slice (some ⟨ib, 0, none⟩) 1 1) ib (by dsimp only; omega)] at hi
      exact boxed_cell (j := 0) hi rfl
   ·
    have hq : decide (0 < sm) = false := by simpa using hpos
    have hrr : restR L = [] := by rw [HSM.out, if_neg hpos]
    rw [hrr] at hKU
    clear hrr
    refine wp_seq_k (fun KV hKV => ?_);revert hF;refine zrg [1, 4] [0, 1, 2, 3, 4, 11, 14, 47] fun a hF => ?_
    clear hq
    refine hKV _ _ ?_;clear hKV
    refine cond_no hF rfl ?_
    refine wp_skip ?_
    exact hKU _ _ ⟨none, 0, 0, hF.sub ⟨rfl, rfl, rfl, rfl, rfl, rfl, trivial⟩, HS8, HRR.out.1, Nat.zero_le _, rfl, fun k hk => absurd hk (Nat.not_lt_zero _)⟩
  clear hF HS8 HRR HSM hsr
  rintro a w10 ⟨rla, rn, rc, hF, HS, HRS⟩
  have hbd := below_d (Below.refl w10.heap.size w10)
  have HSd : Hid (PrvM wI w10.drew A T X ∧ TUpd PrvT w w10.drew ∧ OwnRecs RunE w10.drew wI.heap.size 63 la L.length L) := ⟨HS.out.1.down hbd, HS.out.2.1.down hbd, HS.out.2.2.below hbd⟩
  have HRd : Hid (w10.drew.heap[gr]? = some (.cells #[.slice rla rn rc, .slice gd (A.m - g) (A.gc - g), .bool false] 25 (0, 0)) ∧ rn ≤ 1 ∧ Ints w10.drew rla rn (restR L)) := ⟨HRS.out.1, HRS.out.2.1, HRS.out.2.2.below hbd⟩
  clear HS HRS hbd
  have hbr := restB_range HV.out g L
  have hgl := HGL.out
  obtain ⟨bn, hbn⟩ : ∃ x, x = restB A.G g L := ⟨_, rfl⟩
  rw [← hbn] at hbr
  have hbr2 : 0 ≤ bn ∧ bn ≤ 96000000 := by omega
  have HBN := Lib.hid hbn
  clear hbn hbr hgl
  obtain ⟨v10, T10, hbx, hb10⟩ := HSd.out.1.box
  have HBX := Lib.hid hbx
  clear hbx hb10
  have HSS : Hid (∀ w', Below w10.drew.heap.size w10.drew w' → True ∧ w'.cell? ⟨gr, 0, none⟩ = some (.slice rla rn rc) ∧ w'.cell? ⟨gr, 1, none⟩ = some (.slice gd (A.m - g) (A.gc - g)) ∧ w'.cell? ⟨gr, 2, none⟩ = some (.bool false) ∧ w'.cell? ⟨A.wb, 3, none⟩ = some (.int .i64 A.val)) := fun w' hb =>
   ⟨trivial, Below.cell_of hb (boxed_cell (j := 0) HRd.out.1 rfl), Below.cell_of hb (boxed_cell (j := 1) HRd.out.1 rfl), Below.cell_of hb (boxed_cell (j := 2) HRd.out.1 rfl), Below.cell_of hb (boxed_cell (j := 3) HBX.out rfl)⟩
  have hws : IntKind.i64.wrap (gain + bn) = gain + bn := wrap_in (by omega) (by omega)
  refine seq_cut (fun a' w' => FrF 135 [] [(0, .pointer (some ⟨A.wb, 0, none⟩)), (1, .int .i64 g), (2, .slice la L.length c), (3, .int .i64 gain), (4, .func (.func 26) #[.pointer (some ⟨A.wb, 0, none⟩)] #[])] a' ∧ Hid (PrvM wI w' A T X ∧ TUpd PrvT w w' ∧ OwnRecs RunE w' wI.heap.size 63 la L.length L) ∧ Hid (¬ gain + restB A.G g L ≤ A.val) ∧ False) (fun KB hKB => ?_) ?_
  ·
   refine wp_block ?_
   refine wp_seq_k (fun K hK => ?_);refine region_any (by kernel_rfl) ?_;generalize w10.drew = wd at *;revert hF;refine zhc (fuel := 4) (fun w' => True ∧ w'.cell? ⟨gr, 0, none⟩ = some (.slice rla rn rc) ∧ w'.cell? ⟨gr, 1, none⟩ = some (.slice gd (A.m - g) (A.gc - g)) ∧ w'.cell? ⟨gr, 2, none⟩ = some (.bool false) ∧ w'.cell? ⟨A.wb, 3, none⟩ = some (.int .i64 A.val)) (HSS.out _ (Below.refl _ _)) [1, 19, 65, 88, 104, 115] fun a hF => ?_;refine held_one (n := 2) (fuel := 3) (by kernel_rfl) ?_;revert hF;refine zocP fun K hK => ?_
   refine (bound_any rla gd rn rc (A.m - g) (A.gc - g) false (restR L) (A.G.drop g) wd (by have := HRd.out.2.1; omega) (by omega) HRd.out.2.2 (HPD.out wd HSd.out.1.below)).mono ?_
   rintro e w11 ⟨rfl, hb11⟩
   have hbe : boundS (restR L) (A.G.drop g) = bn := HBN.out.symm
   rw [hbe]
   refine hK.1 _ _ (fun a hF => ⟨?_, ?_⟩)
   ·
    intro _
    exact HSS.out _ hb11
   clear hK K
   have HS11 : Hid (PrvM wI w11 A T X ∧ TUpd PrvT w w11 ∧ OwnRecs RunE w11 wI.heap.size 63 la L.length L) := ⟨HSd.out.1.down hb11, HSd.out.2.1.down hb11, HSd.out.2.2.below hb11⟩
   have HSS11 := Lib.hid (HSS.out _ hb11)
   clear hbe hb11 HSS HSd HRd HBX
   by_cases hbnd : gain + bn ≤ A.val
   ·
    have hq : decide (gain + bn ≤ A.val) = true := by simpa using hbnd
    revert hF;refine zhg (fuel := 0) HSS11.out [56, 136, 146] fun a hF => ?_;refine held_end (by kernel_rfl) ?_;replace hF := hF.kp [0, 1, 2, 3, 4, 51] rfl
    clear hq hws HSS11
    refine hK _ _ ?_;clear hK
    refine cond_yes hF rfl ?_
    have hst : stpF A.G A.val 0 g L gain T.length = [⟨2, 0, []⟩] := stp_bound HNN.out (by rw [← HBN.out]; exact hbnd)
    rw [hst]
    clear hst
    refine wp_seq_k (fun K hK => ?_);revert hF;refine zrp [1, 3] [2, 3] fun a hF => ?_;refine seq_one ?_;refine op_callvP [_] _ _ rfl rfl hF rfl rfl (by first | assumption | kernel_rfl) ⟨rfl, trivial⟩ (fun K hK => ?_);clear hF
    refine (add_any wI w11 A T 2 0 X HS11.out.1 hT).mono ?_
    rintro e w12 (⟨hle, rfl, hp4, ht4⟩ | ⟨hgt, rfl, hb4, ht4⟩)
    ·
     refine hK.1 _ _ (fun a hF => ?_);clear hK K;revert hF;refine zre 3 [2] [10] fun a hF => ?_;refine hK _ _ ?_;clear hK;refine wp_ret ?_;(try simp only [then_ret, block_ret, goto_ret]);revert hF;refine zq ?_
     exact Or.inl ⟨hle, rfl, hp4, HS11.out.2.1.trans ht4⟩
    ·
     refine hK.2 _ _ (fun hF => ?_)
     simp only [then_panic, block_panic, goto_panic]
     exact panic_out hF (Or.inr ⟨hgt, rfl, hb4, HS11.out.2.1.trans ht4⟩)
   have hq : decide (gain + bn ≤ A.val) = false := by simpa using hbnd
   revert hF;refine zhg (fuel := 0) HSS11.out [56, 136, 146] fun a hF => ?_;refine held_end (by kernel_rfl) ?_;replace hF := hF.kp [0, 1, 2, 3, 4, 51] rfl
   clear hq hws HSS11
   refine hK _ _ ?_;clear hK
   refine cond_no hF rfl ?_
   obtain ⟨v11, T11, hbx, hb10⟩ := HS11.out.1.box
   have p1 := boxed_cell (j := 1) hbx rfl
   clear hbx hb10
   have hq2 : ((g : Int) == (A.m : Int)) = true := by simpa using (by omega : (g : Int) = (A.m : Int))
   revert hF;refine zrs [1, 1, 4, 4, 4, 4, 4, 5, 2] [0, 1, 2, 3, 4, 64] fun a hF => ?_
   clear p1 hq2
   refine cond_yes hF rfl ?_
   have hst : stpF A.G A.val 0 g L gain T.length = [⟨3, idxS oneP L, []⟩] := stp_zero HNN.out (by rw [← HBN.out]; exact hbnd)
   rw [hst]
   clear hst
   refine wp_seq_k (fun K hK => ?_);revert hF;refine zrp [1, 1] [2, 3, 4, 5] fun a hF => ?_;revert hF;refine zosP fun K hK => ?_
   refine (index_run w11 la L.length c L HS11.out.2.2.recs (by omega) 46 [] oneP (by kernel_rfl) (fun wx hb i hi => one2_any wx L[i])).mono ?_
   rintro e w12 ⟨rfl, hb12⟩
   have HS12 : Hid (PrvM wI w12 A T X ∧ TUpd PrvT w w12) := ⟨HS11.out.1.down hb12, HS11.out.2.1.down hb12⟩
   clear hb12
   refine hK.1 _ _ (fun a hF => ?_);clear hK K;revert hF;refine zrc 3 [4] [4, 5] fun a hF => ?_;refine seq_one ?_;refine op_callvP [_] _ _ rfl rfl hF rfl rfl (by first | assumption | kernel_rfl) ⟨rfl, trivial⟩ (fun K hK => ?_);clear hF
   refine (add_any wI w12 A T 3 (idxS oneP L) X HS12.out.1 hT).mono ?_
   rintro e w13 (⟨hle, rfl, hp4, ht4⟩ | ⟨hgt, rfl, hb4, ht4⟩)
   ·
    refine hK.1 _ _ (fun a hF => ?_);clear hK K;revert hF;refine zre 5 [2] [10] fun a hF => ?_;refine hK _ _ ?_;clear hK;refine wp_ret ?_;(try simp only [then_ret, block_ret, goto_ret]);revert hF;refine zq ?_
    exact Or.inl ⟨hle, rfl, hp4, HS12.out.2.trans ht4⟩
   ·
    refine hK.2 _ _ (fun hF => ?_)
    simp only [then_panic, block_panic, goto_panic]
    exact panic_out hF (Or.inr ⟨hgt, rfl, hb4, HS12.out.2.trans ht4⟩)
  rintro a w14 ⟨hF, HS, hB, hfalse⟩
  exact hfalse.elim
 | succ k ih =>
  intro g L gain w la c T X hgk hL hR hLR hgn hP hX hT
  subst hL
  have HR0 := Lib.hid hR
  have HLR := Lib.hid hLR
  have HV := Lib.hid hv
  have HG := Lib.hid hG
  have HX := Lib.hid hX
  have HS0 : Hid (PrvM wI w A T X ∧ TUpd PrvT w w ∧ OwnRecs RunE w wI.heap.size 63 la L.length L) := ⟨hP, TUpd.refl _ _, hR⟩
  have HGL : Hid (A.G.length = A.m) := hG.1
  have HWB : Hid (wI.heap.size ≤ w.heap.size) := hP.below.size
  have HNG0 : Hid (∀ j (hj : j < L.length), j < 0 → ¬ L[j].1 < 0) := fun j _ h => absurd h (Nat.not_lt_zero _)
  have HIH := Lib.hid ih
  clear ih hR hLR hv hG hX hP HR0
  refine enter_fr (N := 135) [.pointer (some ⟨A.wb, 0, none⟩), .int .i64 g, .slice la L.length c, .int .i64 gain, .func (.func 26) #[.pointer (some ⟨A.wb, 0, none⟩)] #[]] (Tryz.func25) rfl Tryz.ntmps25 (by rfl) (fun a hF => ?_);replace hF := hF.kp [0, 1, 2, 3, 4] rfl;revert hF;refine zrs [2] [0, 1, 2, 3, 4] fun a hF => ?_;revert hF;refine zrs [2] [0, 1, 2, 3, 4, 11] fun a hF => ?_
  refine seq_cut (fun a' w' => FrF 135 [] [(0, .pointer (some ⟨A.wb, 0, none⟩)), (1, .int .i64 g), (2, .slice la L.length c), (3, .int .i64 gain), (4, .func (.func 26) #[.pointer (some ⟨A.wb, 0, none⟩)] #[]), (11, .int .i64 (sumL (L.take L.length)))] a' ∧ Hid (PrvM wI w' A T X ∧ TUpd PrvT w w' ∧ OwnRecs RunE w' wI.heap.size 63 la L.length L) ∧ Hid (∀ j (hj : j < L.length), j < L.length → ¬ L[j].1 < 0)) (fun KAi hKAi => ?_) ?_
  ·
   skip
   revert hF;refine zrs [1, 4, 1] [0, 1, 2, 3, 4, 11, 19, 20, 21] fun a hF => ?_
   refine wp_block ?_
   refine loop_fr (fun qi a' w' => ∃ i : Nat, i + qi = L.length ∧ FrF 135 [] [(0, .pointer (some ⟨A.wb, 0, none⟩)), (1, .int .i64 g), (2, .slice la L.length c), (3, .int .i64 gain), (4, .func (.func 26) #[.pointer (some ⟨A.wb, 0, none⟩)] #[]), (11, .int .i64 (sumL (L.take i))), (19, .slice la L.length c), (20, .int .i64 L.length), (21, .int .i64 i)] a' ∧ Hid (PrvM wI w' A T X ∧ TUpd PrvT w w' ∧ OwnRecs RunE w' wI.heap.size 63 la L.length L) ∧ Hid (∀ j (hj : j < L.length), j < i → ¬ L[j].1 < 0)) (L.length) ⟨0, by omega, hF, HS0, HNG0⟩ ?_
   clear hF HS0  HNG0
   rintro rki a wr ⟨i, hiki, hF, HS, HNG⟩ KBi hKBi
   by_cases hlt : i < L.length
   rotate_left
   ·
    have hlti : ¬ (i : Int) < (L.length : Nat) := by omega
    revert hF;refine zrs [5] [0, 1, 2, 3, 4, 11, 19, 20, 21, 22] fun a hF => ?_;refine wp_seq_k (fun K hK => ?_)
    refine cond_no hF rfl ?_
    refine wp_exit ?_
    have hie : i = L.length := by omega
    rw [hie] at hF HNG
    exact hKAi _ _ ⟨hF.sub ⟨rfl, rfl, rfl, rfl, rfl, rfl, trivial⟩, HS, HNG⟩
   have hlti : (i : Int) < (L.length : Nat) := by omega
   revert hF;refine zrs [5] [0, 1, 2, 3, 4, 11, 19, 20, 21, 22] fun a hF => ?_;refine wp_seq_k (fun K hK => ?_)
   refine cond_yes hF rfl ?_
   refine wp_skip ?_
   refine hK _ _ ?_;clear hK;replace hF := hF.kp [0, 1, 2, 3, 4, 11, 19, 20, 21] rfl
   clear hKAi
   refine seq_cut (fun a' w' => FrF 135 [] [(0, .pointer (some ⟨A.wb, 0, none⟩)), (1, .int .i64 g), (2, .slice la L.length c), (3, .int .i64 gain), (4, .func (.func 26) #[.pointer (some ⟨A.wb, 0, none⟩)] #[]), (11, .int .i64 (sumL (L.take (i + 1)))), (19, .slice la L.length c), (20, .int .i64 L.length), (21, .int .i64 i)] a' ∧ Hid (PrvM wI w' A T X ∧ TUpd PrvT w w' ∧ OwnRecs RunE w' wI.heap.size 63 la L.length L) ∧ Hid (∀ j (hj : j < L.length), j < (i + 1) → ¬ L[j].1 < 0)) (fun KCi hKCi => ?_) ?_
   rotate_left
   ·
    clear hF HS HNG
    rintro a w' ⟨hF, HS, HNG⟩
    have hws : IntKind.i64.wrap ((i : Int) + 1) = ((i + 1 : Nat) : Int) := wrap_succ (by omega)
    revert hF;refine zrg [4, 1] [0, 1, 2, 3, 4, 11, 19, 20, 21] fun a hF => ?_
    exact hKBi (L.length - (i + 1)) _ _ (by omega) ⟨i + 1, by omega, hF, HS, HNG⟩
   clear hKBi hiki
   refine wp_block ?_
   have hil : i < L.length := hlt
   have hri := HLR.out L[i] (List.getElem_mem hil)
   have hsn := sum_next hil
   rw [hsn] at hKCi
   clear hsn
   have hsr := sum_range (fun r hr => (HLR.out r hr).2) i (by omega) HNG.out
   have HFN : Hid (L[i].1 < 0 → L.findIdx? negP = some i) := fun h => neg_some hil h HNG.out
   have HNX : Hid (¬ L[i].1 < 0 → ∀ j (hj : j < L.length), j < i + 1 → ¬ L[j].1 < 0) := fun h j hj hji => by
    by_cases e : j = i
    ·
     subst e; exact h
    ·
     exact HNG.out j hj (by omega)
   obtain ⟨bb, oo, hla, c0, c1⟩ := run_at HS.out.2.2.recs i hlt hil
   have HLA := Lib.hid hla
   rw [hla] at hF
   have hii : (i : Int) < (L.length : Nat) := by omega
   obtain ⟨r, hr⟩ : ∃ r, r = L[i] := ⟨_, rfl⟩
   rw [← hr] at c0 c1 hri HFN HNX hKCi
   obtain ⟨sm, hsm⟩ : ∃ x, x = sumL (L.take i) := ⟨_, rfl⟩
   rw [← hsm] at hF hKCi hsr
   clear hr hla hsm
   refine wp_seq_k (fun K hK => ?_);revert hF;refine zrp [1, 5, 4] [3, 4, 5] fun a hF => ?_;refine seq_one ?_;revert hF;refine qe0 fun a hF => ?_
   obtain ⟨wa, gr, hwa, hgv, hSV, HTW⟩ := var_new wr 63 #[.int .i64 0, .bool false] #[.int .i64 r.1, .bool r.2] (by kernel_rfl) rfl (by simp [Value.oneCell'])
   rw [hwa]
   rw [← hgv] at hF
   clear hwa hgv
   revert hF;refine zrc 4 [2] [5] fun a hF => ?_;refine seq_one ?_;refine op_storev rfl rfl hF rfl rfl rfl rfl hSV ?_;clear hF;refine fun a hF => ?_
   clear hSV
   refine hK _ _ ?_;clear hK
   generalize wa.setRow gr #[.int .i64 r.1, .bool r.2] = w3 at *
   clear c0 c1
   have HS3 : Hid (PrvM wI w3 A T X ∧ TUpd PrvT w w3 ∧ OwnRecs RunE w3 wI.heap.size 63 la L.length L) := ⟨HS.out.1.down HTW.out.1, HS.out.2.1.down HTW.out.1, HS.out.2.2.below HTW.out.1⟩
   have r0 := boxed_cell (j := 0) HTW.out.2.1 rfl
   clear HS HTW
   refine wp_seq_k (fun K hK => ?_)
   by_cases hneg : r.1 < 0
   ·
    have hq : decide (r.1 < 0) = true := by simpa using hneg
    revert hF;refine zrs [4, 4, 4] [0, 1, 2, 3, 4, 11, 12, 13, 19, 20, 21, 28] fun a hF => ?_
    clear hq r0
    refine cond_yes hF rfl ?_
    have hfi := HFN.out hneg
    have hst : stpF A.G A.val (k + 1) g L gain T.length = [⟨3, (i : Int), []⟩] := stp_neg hfi
    rw [hst]
    clear hfi hst
    refine wp_seq_k (fun K hK => ?_);revert hF;refine zrp [1, 1, 4] [3, 4] fun a hF => ?_;refine seq_one ?_;refine op_callvP [_] _ _ rfl rfl hF rfl rfl (by first | assumption | kernel_rfl) ⟨rfl, trivial⟩ (fun K hK => ?_);clear hF
    refine (add_any wI w3 A T 3 i X HS3.out.1 hT).mono ?_
    rintro e w4 (⟨hle, rfl, hp4, ht4⟩ | ⟨hgt, rfl, hb4, ht4⟩)
    ·
     refine hK.1 _ _ (fun a hF => ?_);clear hK K;revert hF;refine zre 4 [2] [10] fun a hF => ?_;refine hK _ _ ?_;clear hK;refine wp_ret ?_;(try simp only [then_ret, block_ret, goto_ret]);revert hF;refine zq ?_
     exact Or.inl ⟨hle, rfl, hp4, HS3.out.2.1.trans ht4⟩
    ·
     refine hK.2 _ _ (fun hF => ?_)
     simp only [then_panic, block_panic, goto_panic]
     exact panic_out hF (Or.inr ⟨hgt, rfl, hb4, HS3.out.2.1.trans ht4⟩)
   have hq : decide (r.1 < 0) = false := by simpa using hneg
   revert hF;refine zrs [4, 4, 4] [0, 1, 2, 3, 4, 11, 12, 13, 19, 20, 21, 28] fun a hF => ?_
   clear hq
   refine cond_no hF rfl ?_
   refine wp_skip ?_
   refine hK _ _ ?_;clear hK
   have hws : IntKind.i64.wrap (sm + r.1) = sm + r.1 := wrap_in (by omega) (by omega)
   revert hF;refine zrg [1, 4, 4, 5, 2] [0, 1, 2, 3, 4, 11, 19, 20, 21] fun a hF => ?_
   clear r0 hws
   rw [← HLA.out] at hF
   exact hKCi _ _ ⟨hF, HS3, HNX.out hneg⟩
  clear hF HS0  HNG0
  rintro a w7 ⟨hF, HS, HNG⟩
  have HNN : Hid (L.findIdx? negP = none) := neg_none fun j hj => HNG.out j hj hj
  have hsr := sum_range (fun r hr => (HLR.out r hr).2) L.length (Nat.le_refl _) HNG.out
  rw [List.take_length] at hF hsr
  obtain ⟨gd, hgd⟩ : ∃ gd, gd = gaD A.ga g A.gc := ⟨_, rfl⟩
  have HPD : Hid (∀ wx, Below wI.heap.size wI wx → Pairs wx gd (A.m - g) (A.G.drop g)) := fun wx hb => by
   rw [hgd]
   exact pairs_drop (HG.out.below hb) hgc (by omega)
  have hsl : ∀ wx, (Instr.slice 23 (.slice A.ga A.m A.gc) (some (.int .i64 (g : Int))) none none).run Tryz.prog wx = .ok (.slice gd (A.m - g) (A.gc - g)) wx := fun wx => by
   rw [hgd]
   exact run_drop wx A.ga A.m A.gc g hgc (by omega)
  clear hgd HNG
  obtain ⟨pv, pT, hbx, _⟩ := HS.out.1.box
  have p1 := boxed_cell (j := 1) hbx rfl
  clear hbx
  refine wp_seq_k (fun K hK => ?_);revert hF;refine zrp [1, 4, 4, 4, 4, 1, 5, 4] [8, 9] fun a hF => ?_;refine seq_one ?_;revert hF;refine qe0 fun a hF => ?_
  obtain ⟨wa, gr, hwa, hgv, hSV, HTW⟩ := var_new w7 25 #[.slice none 0 0, .slice none 0 0, .bool false] #[.slice none 0 0, .slice gd (A.m - g) (A.gc - g), .bool false] (by kernel_rfl) rfl (by simp [Value.oneCell'])
  rw [hwa]
  rw [← hgv] at hF
  clear hwa hgv
  refine seq_one ?_;refine op_storev rfl rfl hF rfl rfl rfl rfl hSV ?_;clear hF;refine fun a hF => ?_
  clear hSV
  refine hK _ _ ?_;clear hK
  generalize wa.setRow gr #[.slice none 0 0, .slice gd (A.m - g) (A.gc - g), .bool false] = w8 at *
  clear p1 hsl
  have HS8 : Hid (PrvM wI w8 A T X ∧ TUpd PrvT w w8 ∧ OwnRecs RunE w8 wI.heap.size 63 la L.length L) := ⟨HS.out.1.down HTW.out.1, HS.out.2.1.down HTW.out.1, HS.out.2.2.below HTW.out.1⟩
  have HRR : Hid (w8.heap[gr]? = some (.cells #[.slice none 0 0, .slice gd (A.m - g) (A.gc - g), .bool false] 25 (0, 0)) ∧ w.heap.size ≤ gr ∧ wI.heap.size ≤ gr) := ⟨HTW.out.2.1, Nat.le_trans HS.out.2.1.size HTW.out.2.2, Nat.le_trans HS.out.1.below.size HTW.out.2.2⟩
  clear HS HTW
  generalize hsmL : sumL L = sm at *
  have HSM : Hid (restR L = if 0 < sm then [sm] else []) := by
   show _ = _
   unfold restR
   rw [hsmL]
  clear hsmL
  refine seq_cut (fun a' w' => ∃ rla rn rc, FrF 135 [] [(0, .pointer (some ⟨A.wb, 0, none⟩)), (1, .int .i64 g), (2, .slice la L.length c), (3, .int .i64 gain), (4, .func (.func 26) #[.pointer (some ⟨A.wb, 0, none⟩)] #[]), (14, .pointer (some ⟨gr, 0, none⟩))] a' ∧ Hid (PrvM wI w' A T X ∧ TUpd PrvT w w' ∧ OwnRecs RunE w' wI.heap.size 63 la L.length L) ∧ Hid (w'.heap[gr]? = some (.cells #[.slice rla rn rc, .slice gd (A.m - g) (A.gc - g), .bool false] 25 (0, 0)) ∧ rn ≤ 1 ∧ Ints w' rla rn (restR L))) (fun KU hKU => ?_) ?_
  ·
   by_cases hpos : 0 < sm
   ·
    have hq : decide (0 < sm) = true := by simpa using hpos
    have hrr : restR L = [sm] := by rw [HSM.out, if_pos hpos]
    rw [hrr] at hKU
    clear hrr
    refine wp_seq_k (fun KV hKV => ?_);revert hF;refine zrg [1, 4] [0, 1, 2, 3, 4, 11, 14, 47] fun a hF => ?_
    clear hq
    refine hKV _ _ ?_;clear hKV
    refine cond_yes hF rfl ?_
    revert hF;refine zrp [1] [1, 2, 3] fun a hF => ?_;refine seq_one ?_;revert hF;refine qe1 fun a hF => ?_
    have hba := Joins.below_alloc1 w8 (.cells #[.int .i64 sm] 3)
    have HS9 : Hid (PrvM wI (w8.alloc (.cells #[.int .i64 sm] 3)) A T X ∧ TUpd PrvT w (w8.alloc (.cells #[.int .i64 sm] 3)) ∧ OwnRecs RunE (w8.alloc (.cells #[.int .i64 sm] 3)) wI.heap.size 63 la L.length L) := ⟨HS8.out.1.down hba, HS8.out.2.1.down hba, HS8.out.2.2.below hba⟩
    have HR9 : Hid ((w8.alloc (.cells #[.int .i64 sm] 3)).heap[gr]? = some (.cells #[.slice none 0 0, .slice gd (A.m - g) (A.gc - g), .bool false] 25 (0, 0))) := (hba.block gr (lt_of_block HRR.out.1)).trans HRR.out.1
    have HI9 : Hid ((w8.alloc (.cells #[.int .i64 sm] 3)).heap[w8.heap.size]? = some (.cells #[.int .i64 sm] 3 (0, 0))) := heap_new _ _
    have hnr : w8.heap.size ≠ gr := by
     have := lt_of_block HRR.out.1
     omega
    clear hba HS8
    generalize w8.alloc (.cells #[.int .i64 sm] 3) = w9 at *
    generalize w8.heap.size = ib at *
    have q0 := boxed_cell (j := 0) HR9.out rfl
    have f0 := Joins.unfrozen_of_block HR9.out 0
    revert hF;refine zrc 2 [4] [3] fun a hF => ?_;refine seq_one ?_;revert hF;refine qu2 fun a hF => ?_
    clear q0 f0
    refine seq_end ?_;replace hF := hF.kp [0, 1, 2, 3, 4, 14] rfl
    refine hKU _ _ ⟨some ⟨ib, 0, none⟩, 1, 1, hF.sub ⟨rfl, rfl, rfl, rfl, rfl, rfl, trivial⟩, ?_, ?_⟩
    ·
     have ht := tupd_set (j := 0) HR9.out (.slice (some ⟨ib, 0, none⟩) 1 1)
     have hb : Below wI.heap.size wI (w9.setCell ⟨gr, 0, none⟩ (.slice (some ⟨ib, 0, none⟩) 1 1)) := HS9.out.1.below.setCell (by show _ ≤ gr; exact HRR.out.2.2) _
     refine ⟨HS9.out.1.tupd hb ht (by decide) (by decide) (by decide), HS9.out.2.1.grownNew (r := some gr) ⟨ht.os, ht.tape, ht.output, ht.size, fun b hb hne => Below.heap_setCell _ _ _ _ (fun e => hne (by dsimp only at e; rw [e]))⟩ (fun k e => by cases e; exact HRR.out.2.1), HS9.out.2.2.tupd ht (by decide)⟩
    ·
     refine ⟨?_, Nat.le_refl _, rfl, fun k hk => ?_⟩
     ·
      simp [World.setCell, Array.getElem?_modify, HR9.out]
     ·
      obtain rfl : k = 0 := by omega
      refine ⟨ib, 0, rfl, ?_⟩
      have hi := HI9.out
      rw [← Below.heap_setCell w9 ⟨gr, 0, none⟩ (.slice (some ⟨ib, 0, none⟩) 1 1) ib (by dsimp only; omega)] at hi
      exact boxed_cell (j := 0) hi rfl
   ·
    have hq : decide (0 < sm) = false := by simpa using hpos
    have hrr : restR L = [] := by rw [HSM.out, if_neg hpos]
    rw [hrr] at hKU
    clear hrr
    refine wp_seq_k (fun KV hKV => ?_);revert hF;refine zrg [1, 4] [0, 1, 2, 3, 4, 11, 14, 47] fun a hF => ?_
    clear hq
    refine hKV _ _ ?_;clear hKV
    refine cond_no hF rfl ?_
    refine wp_skip ?_
    exact hKU _ _ ⟨none, 0, 0, hF.sub ⟨rfl, rfl, rfl, rfl, rfl, rfl, trivial⟩, HS8, HRR.out.1, Nat.zero_le _, rfl, fun k hk => absurd hk (Nat.not_lt_zero _)⟩
  clear hF HS8 HRR HSM hsr
  rintro a w10 ⟨rla, rn, rc, hF, HS, HRS⟩
  have hbd := below_d (Below.refl w10.heap.size w10)
  have HSd : Hid (PrvM wI w10.drew A T X ∧ TUpd PrvT w w10.drew ∧ OwnRecs RunE w10.drew wI.heap.size 63 la L.length L) := ⟨HS.out.1.down hbd, HS.out.2.1.down hbd, HS.out.2.2.below hbd⟩
  have HRd : Hid (w10.drew.heap[gr]? = some (.cells #[.slice rla rn rc, .slice gd (A.m - g) (A.gc - g), .bool false] 25 (0, 0)) ∧ rn ≤ 1 ∧ Ints w10.drew rla rn (restR L)) := ⟨HRS.out.1, HRS.out.2.1, HRS.out.2.2.below hbd⟩
  clear HS HRS hbd
  have hbr := restB_range HV.out g L
  have hgl := HGL.out
  obtain ⟨bn, hbn⟩ : ∃ x, x = restB A.G g L := ⟨_, rfl⟩
  rw [← hbn] at hbr
  have hbr2 : 0 ≤ bn ∧ bn ≤ 96000000 := by omega
  have HBN := Lib.hid hbn
  clear hbn hbr hgl
  obtain ⟨v10, T10, hbx, hb10⟩ := HSd.out.1.box
  have HBX := Lib.hid hbx
  clear hbx hb10
  have HSS : Hid (∀ w', Below w10.drew.heap.size w10.drew w' → True ∧ w'.cell? ⟨gr, 0, none⟩ = some (.slice rla rn rc) ∧ w'.cell? ⟨gr, 1, none⟩ = some (.slice gd (A.m - g) (A.gc - g)) ∧ w'.cell? ⟨gr, 2, none⟩ = some (.bool false) ∧ w'.cell? ⟨A.wb, 3, none⟩ = some (.int .i64 A.val)) := fun w' hb =>
   ⟨trivial, Below.cell_of hb (boxed_cell (j := 0) HRd.out.1 rfl), Below.cell_of hb (boxed_cell (j := 1) HRd.out.1 rfl), Below.cell_of hb (boxed_cell (j := 2) HRd.out.1 rfl), Below.cell_of hb (boxed_cell (j := 3) HBX.out rfl)⟩
  have hws : IntKind.i64.wrap (gain + bn) = gain + bn := wrap_in (by omega) (by omega)
  refine seq_cut (fun a' w' => FrF 135 [] [(0, .pointer (some ⟨A.wb, 0, none⟩)), (1, .int .i64 g), (2, .slice la L.length c), (3, .int .i64 gain), (4, .func (.func 26) #[.pointer (some ⟨A.wb, 0, none⟩)] #[])] a' ∧ Hid (PrvM wI w' A T X ∧ TUpd PrvT w w' ∧ OwnRecs RunE w' wI.heap.size 63 la L.length L) ∧ Hid (¬ gain + restB A.G g L ≤ A.val)) (fun KB hKB => ?_) ?_
  ·
   refine wp_block ?_
   refine wp_seq_k (fun K hK => ?_);refine region_any (by kernel_rfl) ?_;generalize w10.drew = wd at *;revert hF;refine zhc (fuel := 4) (fun w' => True ∧ w'.cell? ⟨gr, 0, none⟩ = some (.slice rla rn rc) ∧ w'.cell? ⟨gr, 1, none⟩ = some (.slice gd (A.m - g) (A.gc - g)) ∧ w'.cell? ⟨gr, 2, none⟩ = some (.bool false) ∧ w'.cell? ⟨A.wb, 3, none⟩ = some (.int .i64 A.val)) (HSS.out _ (Below.refl _ _)) [1, 19, 65, 88, 104, 115] fun a hF => ?_;refine held_one (n := 2) (fuel := 3) (by kernel_rfl) ?_;revert hF;refine zocP fun K hK => ?_
   refine (bound_any rla gd rn rc (A.m - g) (A.gc - g) false (restR L) (A.G.drop g) wd (by have := HRd.out.2.1; omega) (by omega) HRd.out.2.2 (HPD.out wd HSd.out.1.below)).mono ?_
   rintro e w11 ⟨rfl, hb11⟩
   have hbe : boundS (restR L) (A.G.drop g) = bn := HBN.out.symm
   rw [hbe]
   refine hK.1 _ _ (fun a hF => ⟨?_, ?_⟩)
   ·
    intro _
    exact HSS.out _ hb11
   clear hK K
   have HS11 : Hid (PrvM wI w11 A T X ∧ TUpd PrvT w w11 ∧ OwnRecs RunE w11 wI.heap.size 63 la L.length L) := ⟨HSd.out.1.down hb11, HSd.out.2.1.down hb11, HSd.out.2.2.below hb11⟩
   have HSS11 := Lib.hid (HSS.out _ hb11)
   clear hbe hb11 HSS HSd HRd HBX
   by_cases hbnd : gain + bn ≤ A.val
   ·
    have hq : decide (gain + bn ≤ A.val) = true := by simpa using hbnd
    revert hF;refine zhg (fuel := 0) HSS11.out [56, 136, 146] fun a hF => ?_;refine held_end (by kernel_rfl) ?_;replace hF := hF.kp [0, 1, 2, 3, 4, 51] rfl
    clear hq hws HSS11
    refine hK _ _ ?_;clear hK
    refine cond_yes hF rfl ?_
    have hst : stpF A.G A.val (k + 1) g L gain T.length = [⟨2, 0, []⟩] := stp_bound HNN.out (by rw [← HBN.out]; exact hbnd)
    rw [hst]
    clear hst
    refine wp_seq_k (fun K hK => ?_);revert hF;refine zrp [1, 3] [2, 3] fun a hF => ?_;refine seq_one ?_;refine op_callvP [_] _ _ rfl rfl hF rfl rfl (by first | assumption | kernel_rfl) ⟨rfl, trivial⟩ (fun K hK => ?_);clear hF
    refine (add_any wI w11 A T 2 0 X HS11.out.1 hT).mono ?_
    rintro e w12 (⟨hle, rfl, hp4, ht4⟩ | ⟨hgt, rfl, hb4, ht4⟩)
    ·
     refine hK.1 _ _ (fun a hF => ?_);clear hK K;revert hF;refine zre 3 [2] [10] fun a hF => ?_;refine hK _ _ ?_;clear hK;refine wp_ret ?_;(try simp only [then_ret, block_ret, goto_ret]);revert hF;refine zq ?_
     exact Or.inl ⟨hle, rfl, hp4, HS11.out.2.1.trans ht4⟩
    ·
     refine hK.2 _ _ (fun hF => ?_)
     simp only [then_panic, block_panic, goto_panic]
     exact panic_out hF (Or.inr ⟨hgt, rfl, hb4, HS11.out.2.1.trans ht4⟩)
   have hq : decide (gain + bn ≤ A.val) = false := by simpa using hbnd
   revert hF;refine zhg (fuel := 0) HSS11.out [56, 136, 146] fun a hF => ?_;refine held_end (by kernel_rfl) ?_;replace hF := hF.kp [0, 1, 2, 3, 4, 51] rfl
   clear hq hws HSS11
   refine hK _ _ ?_;clear hK
   refine cond_no hF rfl ?_
   obtain ⟨v11, T11, hbx, hb10⟩ := HS11.out.1.box
   have p1 := boxed_cell (j := 1) hbx rfl
   clear hbx hb10
   have hq2 : ((g : Int) == (A.m : Int)) = false := by simpa using (by omega : ¬ (g : Int) = (A.m : Int))
   revert hF;refine zrs [1, 1, 4, 4, 4, 4, 4, 5, 2] [0, 1, 2, 3, 4, 64] fun a hF => ?_
   clear p1 hq2
   refine cond_no hF rfl ?_
   refine wp_skip ?_
   exact hKB _ _ ⟨hF.sub ⟨rfl, rfl, rfl, rfl, rfl, trivial⟩, HS11, by rw [← HBN.out]; exact hbnd⟩
  clear hF HSS HSd HRd HBX HPD
  rintro a w14 ⟨hF, HS, HNB⟩
  have hst : stpF A.G A.val (k + 1) g L gain T.length = ⟨1, (g : Int), (kidsU A.G A.val k g L gain T.length (L.length + 1)).2⟩ :: (kidsU A.G A.val k g L gain T.length (L.length + 1)).1 := stp_succ HNN.out HNB.out
  rw [hst]
  clear hst HNB HNN HBN
  refine wp_seq_k (fun K hK => ?_);revert hF;refine zrp [1, 1, 4] [3, 4] fun a hF => ?_;refine seq_one ?_;refine op_callvP [_] _ _ rfl rfl hF rfl rfl (by first | assumption | kernel_rfl) ⟨rfl, trivial⟩ (fun K hK => ?_);clear hF
  refine (add_any wI w14 A T 1 g X HS.out.1 hT).mono ?_
  rintro e w15 (⟨hle, rfl, hp15, ht15⟩ | ⟨hgt, rfl, hb15, ht15⟩)
  rotate_left
  ·
   refine hK.2 _ _ (fun hF => ?_)
   simp only [then_panic, block_panic, goto_panic]
   refine panic_out hF (Or.inr ⟨?_, rfl, hb15, HS.out.2.1.trans ht15⟩)
   simp only [List.length_cons, List.length_nil] at hgt ⊢
   omega
  have HS15 : Hid (PrvM wI w15 A (T ++ [⟨1, (g : Int), []⟩]) X ∧ TUpd PrvT w w15 ∧ OwnRecs RunE w15 wI.heap.size 63 la L.length L) := ⟨hp15, HS.out.2.1.trans ht15, HS.out.2.2.tupd ht15 (by decide)⟩
  have hT1 : T.length + 1 ≤ 100000 := by
   simp only [List.length_cons, List.length_nil] at hle
   omega
  clear hp15 ht15 hle HS
  refine hK.1 _ _ (fun a hF => ?_);clear hK K;revert hF;refine zre 4 [2] [0, 1, 2, 3, 4, 15] fun a hF => ?_;refine hK _ _ ?_;clear hK
  obtain ⟨v15, T15, hbx, hb10⟩ := HS15.out.1.box
  have p1 := boxed_cell (j := 1) hbx rfl
  clear hbx hb10
  have hgv := HV.out g (by rw [HGL.out]; omega)
  obtain ⟨bg, og, hga, e0, e1⟩ := (HG.out.below HS15.out.1.below).2 g (by omega)
  rw [hga] at p1
  have hgm : (g : Int) < (A.m : Nat) := by omega
  clear hga
  refine wp_seq_k (fun K hK => ?_);revert hF;refine zrp [1, 4, 4, 4, 4, 1, 5, 4] [8, 9] fun a hF => ?_;refine seq_one ?_;revert hF;refine qe0 fun a hF => ?_
  obtain ⟨wa, gx, hwa, hgv, hSV, HTW⟩ := var_new w15 49 #[.int .i64 0, .int .i64 0] #[.int .i64 (gs A.G g), .int .i64 (gv A.G g)] (by kernel_rfl) rfl (by simp [Value.oneCell'])
  rw [hwa]
  rw [← hgv] at hF
  clear hwa hgv
  refine seq_one ?_;refine op_storev rfl rfl hF rfl rfl rfl rfl hSV ?_;clear hF;refine fun a hF => ?_
  clear hSV
  refine hK _ _ ?_;clear hK
  generalize wa.setRow gx #[.int .i64 (gs A.G g), .int .i64 (gv A.G g)] = w16 at *
  clear p1 e0 e1
  have HWI : Hid (wI.heap.size ≤ w.heap.size) := HWB.out
  have hbg : 0 ≤ gs A.G g * gv A.G g ∧ gs A.G g * gv A.G g ≤ 12000000 := ⟨Int.mul_nonneg (by omega) (by omega), Int.le_trans (Int.mul_le_mul hgv.1.2 hgv.2.2 hgv.2.1 (by omega)) (by omega)⟩
  have HS0 : Hid (PrvM wI w16 A (T ++ ⟨1, (g : Int), []⟩ :: (kidsU A.G A.val k g L gain T.length 0).1) (fun b => X b ∨ (Value.slice none 0 0).ownBlock = some b) ∧ TUpd PrvT w w16 ∧ OwnRecs RunE w16 wI.heap.size 63 la L.length L ∧ w16.heap[gx]? = some (.cells #[.int .i64 (gs A.G g), .int .i64 (gv A.G g)] 49 (0, 0))) :=
   ⟨(HS15.out.1.down HTW.out.1).other fun b _ hb => hb.elim id (fun h => by cases h), HS15.out.2.1.down HTW.out.1, HS15.out.2.2.below HTW.out.1, HTW.out.2.1⟩
  have HR0 : Hid (w16.ownsRow w.heap.size 3 1 (.slice none 0 0) 0 ((kidsU A.G A.val k g L gain T.length 0).2.map (Value.int .i64)) ∧ (T ++ (⟨1, (g : Int), []⟩ : StepT) :: (kidsU A.G A.val k g L gain T.length 0).1).length ≤ 100000) := ⟨nil_row, by
   rw [kidsU_zero]
   simp only [List.length_append, List.length_cons, List.length_nil]
   omega⟩
  clear HS15 HTW
  revert hF;refine zrs [2] [0, 1, 2, 3, 4, 15, 16, 17] fun a hF => ?_
  refine seq_cut (fun a' w' => ∃ v : Value, FrF 135 [] [(0, .pointer (some ⟨A.wb, 0, none⟩)), (1, .int .i64 g), (2, .slice la L.length c), (3, .int .i64 gain), (4, .func (.func 26) #[.pointer (some ⟨A.wb, 0, none⟩)] #[]), (15, .int .i64 (T.length : Nat)), (16, .pointer (some ⟨gx, 0, none⟩)), (17, v)] a' ∧ Hid (PrvM wI w' A (T ++ ⟨1, (g : Int), []⟩ :: (kidsU A.G A.val k g L gain T.length L.length).1) (fun b => X b ∨ v.ownBlock = some b) ∧ TUpd PrvT w w' ∧ OwnRecs RunE w' wI.heap.size 63 la L.length L ∧ w'.heap[gx]? = some (.cells #[.int .i64 (gs A.G g), .int .i64 (gv A.G g)] 49 (0, 0))) ∧ Hid (w'.ownsRow w.heap.size 3 1 v L.length ((kidsU A.G A.val k g L gain T.length L.length).2.map (Value.int .i64)) ∧ (T ++ ⟨1, (g : Int), []⟩ :: (kidsU A.G A.val k g L gain T.length L.length).1).length ≤ 100000)) (fun KAq hKAq => ?_) ?_
  ·
   skip
   revert hF;refine zrs [1, 4, 1] [0, 1, 2, 3, 4, 15, 16, 17, 91, 92] fun a hF => ?_
   refine wp_block ?_
   refine loop_fr (fun qq a' w' => ∃ i : Nat, i + qq = L.length ∧ ∃ v : Value, FrF 135 [] [(0, .pointer (some ⟨A.wb, 0, none⟩)), (1, .int .i64 g), (2, .slice la L.length c), (3, .int .i64 gain), (4, .func (.func 26) #[.pointer (some ⟨A.wb, 0, none⟩)] #[]), (15, .int .i64 (T.length : Nat)), (16, .pointer (some ⟨gx, 0, none⟩)), (17, v), (91, .int .i64 L.length), (92, .int .i64 i)] a' ∧ Hid (PrvM wI w' A (T ++ ⟨1, (g : Int), []⟩ :: (kidsU A.G A.val k g L gain T.length i).1) (fun b => X b ∨ v.ownBlock = some b) ∧ TUpd PrvT w w' ∧ OwnRecs RunE w' wI.heap.size 63 la L.length L ∧ w'.heap[gx]? = some (.cells #[.int .i64 (gs A.G g), .int .i64 (gv A.G g)] 49 (0, 0))) ∧ Hid (w'.ownsRow w.heap.size 3 1 v i ((kidsU A.G A.val k g L gain T.length i).2.map (Value.int .i64)) ∧ (T ++ ⟨1, (g : Int), []⟩ :: (kidsU A.G A.val k g L gain T.length i).1).length ≤ 100000)) (L.length) ⟨0, by omega, _, hF, HS0, HR0⟩ ?_
   clear hF HS0  HR0
   rintro rkq a wr ⟨i, hikq, v, hF, HS, HR⟩ KBq hKBq
   by_cases hlt : i < L.length
   rotate_left
   ·
    have hlti : ¬ (i : Int) < (L.length : Nat) := by omega
    revert hF;refine zrs [5] [0, 1, 2, 3, 4, 15, 16, 17, 91, 92, 93] fun a hF => ?_;refine wp_seq_k (fun K hK => ?_)
    refine cond_no hF rfl ?_
    refine wp_exit ?_
    have hie : i = L.length := by omega
    rw [hie] at HS HR
    exact hKAq _ _ ⟨_, hF.sub ⟨rfl, rfl, rfl, rfl, rfl, rfl, rfl, rfl, trivial⟩, HS, HR⟩
   have hlti : (i : Int) < (L.length : Nat) := by omega
   revert hF;refine zrs [5] [0, 1, 2, 3, 4, 15, 16, 17, 91, 92, 93] fun a hF => ?_;refine wp_seq_k (fun K hK => ?_)
   refine cond_yes hF rfl ?_
   refine wp_skip ?_
   refine hK _ _ ?_;clear hK;replace hF := hF.kp [0, 1, 2, 3, 4, 15, 16, 17, 91, 92] rfl
   clear hKAq
   refine seq_cut (fun a' w' => ∃ v : Value, FrF 135 [] [(0, .pointer (some ⟨A.wb, 0, none⟩)), (1, .int .i64 g), (2, .slice la L.length c), (3, .int .i64 gain), (4, .func (.func 26) #[.pointer (some ⟨A.wb, 0, none⟩)] #[]), (15, .int .i64 (T.length : Nat)), (16, .pointer (some ⟨gx, 0, none⟩)), (17, v), (91, .int .i64 L.length), (92, .int .i64 i)] a' ∧ Hid (PrvM wI w' A (T ++ ⟨1, (g : Int), []⟩ :: (kidsU A.G A.val k g L gain T.length (i + 1)).1) (fun b => X b ∨ v.ownBlock = some b) ∧ TUpd PrvT w w' ∧ OwnRecs RunE w' wI.heap.size 63 la L.length L ∧ w'.heap[gx]? = some (.cells #[.int .i64 (gs A.G g), .int .i64 (gv A.G g)] 49 (0, 0))) ∧ Hid (w'.ownsRow w.heap.size 3 1 v (i + 1) ((kidsU A.G A.val k g L gain T.length (i + 1)).2.map (Value.int .i64)) ∧ (T ++ ⟨1, (g : Int), []⟩ :: (kidsU A.G A.val k g L gain T.length (i + 1)).1).length ≤ 100000)) (fun KCq hKCq => ?_) ?_
   rotate_left
   ·
    clear hF HS HR
    rintro a w' ⟨v, hF, HS, HR⟩
    have hws : IntKind.i64.wrap ((i : Int) + 1) = ((i + 1 : Nat) : Int) := wrap_succ (by omega)
    revert hF;refine zrg [4, 1] [0, 1, 2, 3, 4, 15, 16, 17, 91, 92] fun a hF => ?_
    exact hKBq (L.length - (i + 1)) _ _ (by omega) ⟨i + 1, by omega, _, hF, HS, HR⟩
   clear hKBq hikq
   refine wp_block ?_
   have hil : i < L.length := hlt
   obtain ⟨bb, oo, hla, c0, c1⟩ := run_at HS.out.2.2.1.recs i hlt hil
   have HLA := Lib.hid hla
   rw [hla] at hF
   clear c0 c1
   have hii : (i : Int) < (L.length : Nat) := by omega
   have hku := kidsU_run (G := A.G) (val := A.val) (k := k) (g := g) (gain := gain) (base := T.length) hil
   rw [hku] at hKCq
   dsimp only at hKCq
   have HKU := Lib.hid hku
   clear hku
   obtain ⟨X1, hX1⟩ : ∃ x, x = (kidsU A.G A.val k g L gain T.length i).1 := ⟨_, rfl⟩
   obtain ⟨K1, hK1⟩ : ∃ x, x = (kidsU A.G A.val k g L gain T.length i).2 := ⟨_, rfl⟩
   rw [← hX1] at HS HR hKCq HKU
   rw [← hK1] at HR hKCq HKU
   have HX1 := Lib.hid hX1
   clear hX1 hK1
   obtain ⟨T1, hT1⟩ : ∃ x, x = T ++ (⟨1, (g : Int), []⟩ : StepT) :: X1 := ⟨_, rfl⟩
   have hlen1 : T1.length = T.length + 1 + X1.length := by rw [hT1, List.length_append, List.length_cons]; omega
   have HT1E := Lib.hid hT1
   rw [← hT1] at HS HR
   have HLN1 := Lib.hid hlen1
   clear hT1 hlen1
   have hT1l : T1.length ≤ 100000 := HR.out.2
   have HST : Hid (∀ wx, Recs RunE wx (some ⟨bb, oo, none⟩) L.length L → Calls Tryz.prog 44 #[.slice (some ⟨bb, oo, none⟩) L.length c, .int .i64 i, .int .i64 (gs A.G g)] wx fun e w' => ∃ g' c', e = .returned (.slice (some ⟨g', 0, none⟩) L.length c') ∧ Below wx.heap.size wx w' ∧ wx.heap.size ≤ g' ∧ (sitF L i (gs A.G g)).length = L.length ∧ RecRow RunE w' g' 63 (sitF L i (gs A.G g))) := fun wx hx =>
    seat_any wx _ L.length c L i (gs A.G g) hx (by omega) hil (by omega) (fun r hr => by have := HLR.out r hr; omega)
   obtain ⟨L', hL'⟩ : ∃ x, x = sitF L i (gs A.G g) := ⟨_, rfl⟩
   have HLR' : Hid (∀ r ∈ L', (12 * (k : Nat) : Int) - 1000 ≤ r.1 ∧ r.1 ≤ 4000) := by
    rw [hL']
    exact sit_low hil (fun r hr => by have := HLR.out r hr; omega) (by omega)
   have hl' : L'.length = L.length := by rw [hL']; exact sit_len _ _ _
   rw [← hL'] at HST hKCq HKU
   clear hL'
   have HLE := Lib.hid hl'
   obtain ⟨b, hb⟩ : ∃ b, b = gs A.G g * gv A.G g := ⟨_, rfl⟩
   rw [← hb] at hbg hKCq HKU
   have HBE := Lib.hid hb
   clear hb
   have hbd := below_d (Below.refl wr.heap.size wr)
   have HSd : Hid (PrvM wI wr.drew A T1 (fun b => X b ∨ v.ownBlock = some b) ∧ TUpd PrvT w wr.drew ∧ OwnRecs RunE wr.drew wI.heap.size 63 la L.length L ∧ wr.drew.heap[gx]? = some (.cells #[.int .i64 (gs A.G g), .int .i64 (gv A.G g)] 49 (0, 0))) := ⟨HS.out.1.down hbd, HS.out.2.1.down hbd, HS.out.2.2.1.below hbd, HS.out.2.2.2⟩
   have HRd : Hid (wr.drew.ownsRow w.heap.size 3 1 v i (K1.map (Value.int .i64))) := HR.out.1
   clear HS HR hbd
   revert hF;refine zrs [1, 2] [0, 1, 2, 3, 4, 15, 16, 17, 18, 91, 92] fun a hF => ?_
   have hg1 : IntKind.i64.wrap ((g : Int) + 1) = ((g + 1 : Nat) : Int) := wrap_succ (by omega)
   have hws1 : IntKind.i64.wrap (gs A.G g * gv A.G g) = b := by rw [← HBE.out]; exact wrap_in (by omega) (by omega)
   have hws2 : IntKind.i64.wrap (gain + b) = gain + b := wrap_in (by omega) (by omega)
   have HSS : Hid (∀ w', TUpd (fun T => PrvT T ∨ T = 3) wr.drew w' → True ∧ w'.cell? ⟨gx, 0, none⟩ = some (.int .i64 (gs A.G g)) ∧ w'.cell? ⟨gx, 1, none⟩ = some (.int .i64 (gv A.G g))) := fun w' ht =>
    ⟨trivial, boxed_cell (j := 0) (ht.keep HSd.out.2.2.2 (by decide)) rfl, boxed_cell (j := 1) (ht.keep HSd.out.2.2.2 (by decide)) rfl⟩
   refine region_any (by kernel_rfl) ?_;generalize wr.drew = wd at *;revert hF;refine zhc (fuel := 5) (fun w' => True ∧ w'.cell? ⟨gx, 0, none⟩ = some (.int .i64 (gs A.G g)) ∧ w'.cell? ⟨gx, 1, none⟩ = some (.int .i64 (gv A.G g))) (HSS.out _ (TUpd.refl _ _)) [1, 17, 33, 56, 65, 81, 104, 115, 145, 168, 179, 200, 211, 232, 248, 257] fun a hF => ?_;refine held_one (n := 8) (fuel := 4) (by kernel_rfl) ?_;revert hF;refine zocP fun K hK => ?_
   refine (HST.out wd (by have := HSd.out.2.2.1.recs; rw [HLA.out] at this; exact this)).mono ?_
   rintro e w6 ⟨g', c', rfl, hb6, hg6, hl6, hr6⟩
   refine hK.1 _ _ (fun a hF => ⟨?_, ?_⟩)
   ·
    intro _
    exact HSS.out _ (TUpd.of_below hb6)
   clear hK K
   have HS6 : Hid (PrvM wI w6 A T1 (fun b => X b ∨ v.ownBlock = some b) ∧ TUpd PrvT w w6 ∧ OwnRecs RunE w6 wI.heap.size 63 la L.length L ∧ w6.heap[gx]? = some (.cells #[.int .i64 (gs A.G g), .int .i64 (gv A.G g)] 49 (0, 0))) :=
    ⟨HSd.out.1.down hb6, HSd.out.2.1.down hb6, HSd.out.2.2.1.below hb6, (hb6.block gx (lt_of_block HSd.out.2.2.2)).trans HSd.out.2.2.2⟩
   have HR6 : Hid (w6.ownsRow w.heap.size 3 1 v i (K1.map (Value.int .i64))) := row_of_heap HRd.out fun b hb => hb6.block b (HRd.out.lt b hb).2
   have hwIw : wI.heap.size ≤ wd.heap.size := HSd.out.1.below.size
   have HL6 : Hid (OwnRecs RunE w6 wI.heap.size 63 (some ⟨g', 0, none⟩) L.length L') := ⟨HLE.out, fun _ => ⟨g', rfl, Nat.le_trans hwIw hg6, hr6⟩⟩
   have HT6 : Hid (TUpd (fun T => PrvT T ∨ T = 3) wd w6) := TUpd.of_below hb6
   clear hr6 hg6 hl6 hb6 HSd HRd HST hwIw
   revert hF;refine zhg (fuel := 4) (HSS.out _ HT6.out) [] fun a hF => ?_;refine held_one (n := 17) (fuel := 3) (by kernel_rfl) ?_;revert hF;refine zocP fun K hK => ?_
   have hgn' : 0 ≤ gain + b ∧ gain + b ≤ 12000000 * ((g + 1 : Nat) : Int) := by omega
   refine (HIH.out (g + 1) L' (gain + b) w6 (some ⟨g', 0, none⟩) c' T1 (fun b => X b ∨ v.ownBlock = some b) (by omega) HLE.out HL6.out HLR'.out hgn' HS6.out.1 (fun bb hb => by
    rcases hb with hb | hb
    ·
     exact Nat.lt_of_lt_of_le (HX.out bb hb) HS6.out.2.1.size
    ·
     exact (HR6.out.lt bb hb).2) hT1l).mono ?_
   rintro e w7 (⟨hle, rfl, hp7, ht7⟩ | ⟨hgt, rfl, hb7, ht7⟩)
   rotate_left
   ·
    refine hK.2 _ _ (fun hF => ?_)
    simp only [then_panic, block_panic, goto_panic]
    refine panic_out hF (Or.inr ⟨?_, rfl, hb7, HS6.out.2.1.trans ht7⟩)
    have hmo := kidsU_mono (G := A.G) (val := A.val) (k := k) (g := g) (L := L) (gain := gain) (base := T.length) (r := i + 1) (N := L.length + 1) (by omega)
    rw [HKU.out] at hmo
    dsimp only at hmo
    rw [List.length_append] at hmo
    rw [List.length_cons]
    rw [← HLN1.out] at hmo
    have := HLN1.out
    omega
   obtain ⟨NW, hNW⟩ : ∃ x, x = stpF A.G A.val k (g + 1) L' (gain + b) T1.length := ⟨_, rfl⟩
   rw [← hNW] at hle hp7
   rw [← HLN1.out, ← hNW] at hKCq
   clear hNW
   have HT7 : Hid (TUpd (fun T => PrvT T ∨ T = 3) wd w7) := HT6.out.trans (ht7.wide fun i e => Or.inl e)
   refine hK.1 _ _ (fun a hF => ⟨?_, ?_⟩)
   ·
    intro _
    exact HSS.out _ HT7.out
   clear hK K
   have HS7 : Hid (PrvM wI w7 A (T1 ++ NW) (fun b => X b ∨ v.ownBlock = some b) ∧ TUpd PrvT w w7 ∧ OwnRecs RunE w7 wI.heap.size 63 la L.length L ∧ w7.heap[gx]? = some (.cells #[.int .i64 (gs A.G g), .int .i64 (gv A.G g)] 49 (0, 0))) :=
    ⟨hp7, HS6.out.2.1.trans ht7, HS6.out.2.2.1.tupd ht7 (by decide), ht7.keep HS6.out.2.2.2 (by decide)⟩
   have HR7 : Hid (w7.ownsRow w.heap.size 3 1 v i (K1.map (Value.int .i64))) := row_of_heap HR6.out fun b hb => by
    obtain ⟨cur, hc⟩ := own_type HR6.out hb
    rw [ht7.keep hc (by decide), hc]
   clear hp7 ht7 HS6 HR6 HL6 HT6
   refine held_one (n := 18) (fuel := 2) (by kernel_rfl) ?_;revert hF;refine qe1 fun a hF => ⟨?_, ?_⟩
   ·
    intro _
    exact HSS.out _ (HT7.out.down (Joins.below_alloc1 w7 _))
   obtain ⟨v', w9, hAPP, ho9, hp9, ht9, hti9⟩ := kid_mem (x := (T1.length : Int)) HS7.out.1 HR7.out (by omega) HWI.out HS7.out.2.1
   have HS9 : Hid (PrvM wI w9 A (T1 ++ NW) (fun b => X b ∨ v'.ownBlock = some b) ∧ TUpd PrvT w w9 ∧ OwnRecs RunE w9 wI.heap.size 63 la L.length L ∧ w9.heap[gx]? = some (.cells #[.int .i64 (gs A.G g), .int .i64 (gv A.G g)] 49 (0, 0))) :=
    ⟨hp9, ht9, HS7.out.2.2.1.tupd hti9 (by decide), hti9.keep HS7.out.2.2.2 (by decide)⟩
   have HR9 := Lib.hid ho9
   have HT9 : Hid (TUpd (fun T => PrvT T ∨ T = 3) wd w9) := HT7.out.trans (hti9.wide fun i e => Or.inr e)
   clear ho9 hp9 ht9 hti9 HS7 HR7 HT7
   refine held_one (n := 19) (fuel := 1) (by kernel_rfl) ?_;refine op_append rfl rfl rfl rfl rfl hF rfl rfl rfl hAPP (fun a hF => ⟨?_, ?_⟩)
   ·
    intro _
    exact HSS.out _ HT9.out
   revert hF;refine zhg (fuel := 0) (HSS.out _ HT9.out) [322] fun a hF => ?_;refine held_end (by kernel_rfl) ?_;replace hF := hF.kp [0, 1, 2, 3, 4, 15, 16, 17, 91, 92] rfl
   rw [← HLA.out] at hF
   have he : T1 ++ NW = T ++ (⟨1, (g : Int), []⟩ : StepT) :: (X1 ++ NW) := by
    rw [HT1E.out]
    simp
   rw [he] at HS9
   refine hKCq _ _ ⟨_, hF, HS9, HR9.out, ?_⟩
   rw [← he, List.length_append]
   exact hle
  clear hF HS0  HR0
  rintro a w30 ⟨v, hF, HS, HR⟩
  have hkn := kidsU_none (G := A.G) (val := A.val) (k := k) (g := g) (L := L) (gain := gain) (base := T.length)
  rw [hkn]
  clear hkn
  dsimp only
  obtain ⟨X1, hX1⟩ : ∃ x, x = (kidsU A.G A.val k g L gain T.length L.length).1 := ⟨_, rfl⟩
  obtain ⟨K1, hK1⟩ : ∃ x, x = (kidsU A.G A.val k g L gain T.length L.length).2 := ⟨_, rfl⟩
  rw [← hX1] at HS HR ⊢
  rw [← hK1] at HR ⊢
  clear hX1 hK1
  obtain ⟨T1, hT1e⟩ : ∃ x, x = T ++ (⟨1, (g : Int), []⟩ : StepT) :: X1 := ⟨_, rfl⟩
  have hlen1 : T1.length = T.length + 1 + X1.length := by rw [hT1e, List.length_append, List.length_cons]; omega
  have HT1E := Lib.hid hT1e
  rw [← hT1e] at HS HR
  rw [← hlen1]
  have HLN1 := Lib.hid hlen1
  clear hT1e hlen1
  have hT1l : T1.length ≤ 100000 := HR.out.2
  have hg1 : IntKind.i64.wrap ((g : Int) + 1) = ((g + 1 : Nat) : Int) := wrap_succ (by omega)
  refine wp_seq_k (fun K hK => ?_);revert hF;refine zrp [1, 1, 1, 4, 1, 1, 1] [7, 8, 9, 10] fun a hF => ?_;revert hF;refine zosP fun K hK => ?_
  have hgn' : 0 ≤ gain ∧ gain ≤ 12000000 * ((g + 1 : Nat) : Int) := by omega
  refine (HIH.out (g + 1) L gain w30 la c T1 (fun b => X b ∨ v.ownBlock = some b) (by omega) rfl HS.out.2.2.1 (fun r hr => by have := HLR.out r hr; omega) hgn' HS.out.1 (fun bb hb => by
   rcases hb with hb | hb
   ·
    exact Nat.lt_of_lt_of_le (HX.out bb hb) HS.out.2.1.size
   ·
    exact (HR.out.1.lt bb hb).2) hT1l).mono ?_
  obtain ⟨NW, hNW⟩ : ∃ x, x = stpF A.G A.val k (g + 1) L gain T1.length := ⟨_, rfl⟩
  rw [← hNW]
  have HNW := Lib.hid hNW
  clear hNW
  rintro e w31 (⟨hle, rfl, hp7, ht7⟩ | ⟨hgt, rfl, hb7, ht7⟩)
  rotate_left
  ·
   refine hK.2 _ _ (fun hF => ?_)
   simp only [then_panic, block_panic, goto_panic]
   refine panic_out hF (Or.inr ⟨?_, rfl, hb7, HS.out.2.1.trans ht7⟩)
   rw [← HNW.out, List.length_cons, List.length_append]
   have := HLN1.out
   omega
  have HS7 : Hid (PrvM wI w31 A (T1 ++ NW) (fun b => X b ∨ v.ownBlock = some b) ∧ TUpd PrvT w w31) := ⟨hp7, HS.out.2.1.trans ht7⟩
  have HR7 : Hid (w31.ownsRow w.heap.size 3 1 v L.length (K1.map (Value.int .i64))) := row_of_heap HR.out.1 fun b hb => by
   obtain ⟨cur, hc⟩ := own_type HR.out.1 hb
   rw [ht7.keep hc (by decide), hc]
  clear hp7 ht7 HS HR
  refine hK.1 _ _ (fun a hF => ?_);clear hK K;refine seq_one ?_;revert hF;refine qe1 fun a hF => ?_
  obtain ⟨v', w33, hAPP, ho9, hp9, ht9, hti9⟩ := kid_mem (x := (T1.length : Int)) HS7.out.1 HR7.out (by omega) HWI.out HS7.out.2
  clear hti9 HS7 HR7
  have he : T1 ++ NW = T ++ (⟨1, (g : Int), []⟩ : StepT) :: (X1 ++ NW) := by
   rw [HT1E.out]
   simp
  rw [he] at hp9
  have HS9 := Lib.hid (And.intro hp9 ht9)
  obtain ⟨ka, kc, rfl, _⟩ := OwnRecs.of_row (E := IntE) (xs := K1 ++ [(T1.length : Int)]) (by rw [flat_int]; exact ho9)
  have HR9 := Lib.hid ho9
  clear hp9 ht9 ho9 he
  refine seq_one ?_;refine op_append rfl rfl rfl rfl rfl hF rfl rfl rfl hAPP (fun a hF => ?_);clear hAPP;revert hF;refine zre 10 [2] [0, 15, 17] fun a hF => ?_;refine hK _ _ ?_;clear hK
  have hkl : (K1 ++ [(T1.length : Int)]).length = L.length + 1 := by
   have := HR9.out.1
   simpa using this
  obtain ⟨gS, cS, old, hbx, hold, hfr, hp40, ht40⟩ := kids_mem (gr := (g : Int)) (K := K1 ++ [(T1.length : Int)]) (ka := ka) (kn := L.length + 1) (kc := kc) (B := w.heap.size) (X := X) (HS9.out.1.other fun b _ hb => Or.inl hb) (by rw [hkl]; exact HR9.out) hkl.symm HWI.out (fun b hb hx => by
   have h1 := (HR9.out.lt b hb).1
   have h2 := HX.out b hx
   omega)
  have p4 := boxed_cell (j := 4) hbx rfl
  have hni : (T.length : Int) < ((T ++ (⟨1, (g : Int), []⟩ : StepT) :: (X1 ++ NW)).length : Nat) := by
   simp only [List.length_append, List.length_cons]
   omega
  have hle2 : T.length + ((⟨1, (g : Int), K1 ++ [(T1.length : Int)]⟩ : StepT) :: (X1 ++ NW)).length ≤ 100000 := by
   rw [List.length_cons, List.length_append]
   have := HLN1.out
   omega
  have HS40 : Hid (PrvM wI (w33.setCell ⟨gS, T.length * 3 + 2, none⟩ (.slice ka (L.length + 1) kc)) A (T ++ ⟨1, (g : Int), K1 ++ [(T1.length : Int)]⟩ :: (X1 ++ NW)) X ∧ TUpd PrvT w (w33.setCell ⟨gS, T.length * 3 + 2, none⟩ (.slice ka (L.length + 1) kc))) := ⟨hp40, HS9.out.2.trans ht40⟩
  clear hbx hp40 ht40 HS9 HR9
  generalize (T ++ (⟨1, (g : Int), []⟩ : StepT) :: (X1 ++ NW)).length = nS at *
  refine wp_seq_k (fun K hK => ?_);revert hF;refine zrp [1, 4, 4, 4, 1, 1, 5, 4] [8] fun a hF => ?_;refine seq_one ?_;revert hF;refine qu2 fun a hF => ?_
  clear p4 hold hfr hni
  refine seq_end ?_;replace hF := hF.kp [15] rfl;refine hK _ _ ?_;clear hK
  generalize w33.setCell ⟨gS, T.length * 3 + 2, none⟩ (.slice ka (L.length + 1) kc) = w40 at *
  revert hF;refine zrs [1, 2] [10] fun a hF => ?_;refine wp_ret ?_;(try simp only [then_ret, block_ret, goto_ret]);revert hF;refine zq ?_
  rw [← HNW.out]
  exact Or.inl ⟨hle2, rfl, HS40.out.1, HS40.out.2⟩
end Go.Proofs.YthabgljdndbphaaGreatDoor
