/- A row of pairs of the call's own; foyerref22.taken: the walk; foyerref22.Legal: the walk; A packing in a variable. -/
import Derived.Test.YthabgljdndbphaaGreatDoorQPKM09
import Derived.Test.YthabgljdndbphaaGreatDoorQPKM35
import Derived.Test.YthabgljdndbphaaGreatDoorQPKM38
import Derived.Test.YthabgljdndbphaaGreatDoorQPKM42
import Derived.Test.YthabgljdndbphaaGreatDoorQPKM44

set_option linter.unusedVariables false
set_option linter.unusedSimpArgs false
namespace Go.Proofs.YthabgljdndbphaaGreatDoor
open Go.RowKit

structure ProbAt (w : World) (b n m : Nat) (ra ga : Option Addr) (c d : Nat) (single : Bool) (R : List Int) (G : List (Int × Int)) : Prop where
 box : Box w b 25 #[.slice ra n c, .slice ga m d, .bool single]
 runs : Ints w ra n R
 groups : Pairs w ga m G
 nil : ra = none → c = 0
theorem ProbAt.below {w w' : World} {b n m c d : Nat} {ra ga : Option Addr} {single : Bool} {R : List Int} {G : List (Int × Int)} (h : ProbAt w b n m ra ga c d single R G) (hb : Below w.heap.size w w') : ProbAt w' b n m ra ga c d single R G :=
 ⟨h.box.below hb, h.runs.below hb, h.groups.below hb, h.nil⟩
theorem al (w : World) (x : Obj) : Below w.heap.size w (w.alloc x) := (Below.refl _ _).alloc (Nat.le_refl _) _






end Go.Proofs.YthabgljdndbphaaGreatDoor

namespace Go.Proofs.YthabgljdndbphaaGreatDoor
open Go.RowKit Go.IntWalk

/-- What taken returns. -/
def TakenPost (o : Option (List Bool)) (w : World) (e : Ending) (w' : World) : Prop :=
 Below w.heap.size w w' ∧ ((o = none ∧ e = .returned (.tuple #[.slice none 0 0, .bool false])) ∨ ∃ D la lc, o = some D ∧ e = .returned (.tuple #[.slice la D.length lc, .bool true]) ∧ Bools w' la D.length D)

theorem fillB_none (D : List Bool) (f : Nat) : ∀ s j, j ≤ s → fillB D f j = none → fillB D f s = none := by
 intro s
 induction s with
 | zero => intro j hj h; rw [show j = 0 from by omega] at h; exact h
 | succ s ih =>
  intro j hj h
  by_cases e : j = s + 1
  ·
   subst e; exact h
  ·
   rw [fillB, ih j (by omega) h]; rfl

theorem takenF_none (R : List Int) (G S : List (Int × Int)) (r : Nat) : ∀ n i, i ≤ n → takenF R G S r i = none → takenF R G S r n = none := by
 intro n
 induction n with
 | zero => intro i hi h; rw [show i = 0 from by omega] at h; exact h
 | succ n ih =>
  intro i hi h
  by_cases e : i = n + 1
  ·
   subst e; exact h
  ·
   rw [takenF, ih i (by omega) h]; rfl

theorem takenF_len {R : List Int} {G S : List (Int × Int)} {r : Nat} : ∀ i D, takenF R G S r i = some D → D.length = (ix R r).toNat := by
 intro i
 induction i with
 | zero => intro D h; rw [takenF] at h; obtain rfl := Option.some.inj h; simp
 | succ i ih =>
  intro D h
  rw [takenF] at h
  cases hE : takenF R G S r i with
  | none => rw [hE] at h; simp at h
  | some E =>
   rw [hE, Option.bind_some] at h
   have hl := ih E hE
   split at h
   ·
    obtain rfl := Option.some.inj h; exact hl
   ·
    split at h
    ·
     simp at h
    ·
     have hf : ∀ s F, fillB E (gv S i).toNat s = some F → F.length = E.length := by
      intro s
      induction s with
      | zero => intro F h; rw [fillB] at h; obtain rfl := Option.some.inj h; rfl
      | succ s ihs =>
       intro F h
       rw [fillB] at h
       cases hF : fillB E (gv S i).toNat s with
       | none => rw [hF] at h; simp at h
       | some F0 =>
        rw [hF, Option.bind_some] at h
        split at h
        ·
         simp at h
        ·
         obtain rfl := Option.some.inj h; rw [List.length_set]; exact ihs F0 hF
     rw [hf _ D h]; exact hl

set_option maxRecDepth 20000 in
set_option maxHeartbeats 3200000 in
theorem taken_any (ra ga sa : Option Addr) (n c m d sc r : Nat) (single : Bool) (V0 : Int) (R : List Int) (G S : List (Int × Int)) (w : World)
  (_hn : n ≤ 4000) (hm : m ≤ 4000) (hr : r < n) (hR : Ints w ra n R) (hG : Pairs w ga m G) (hS : Pairs w sa m S) (hv : ValuesOk G) (hRb : ∀ r, r < n → 0 ≤ ix R r ∧ ix R r ≤ 4000) :
  Calls Tryz.prog 62 #[.agg #[.slice ra n c, .slice ga m d, .bool single], .agg #[.slice sa m sc, .int .i64 V0], .int .i64 r] w (TakenPost (takenF R G S r m) w) := by
 have hb0 : Below w.heap.size w ((w.alloc (.cells #[.slice ra n c, .slice ga m d, .bool single] 25)).alloc (.cells #[.slice sa m sc, .int .i64 V0] 31)) := ((Below.refl _ _).alloc (Nat.le_refl _) _).alloc (by simp) _
 have HP : Hid (ProbAt ((w.alloc (.cells #[.slice ra n c, .slice ga m d, .bool single] 25)).alloc (.cells #[.slice sa m sc, .int .i64 V0] 31)) w.heap.size n m ra ga c d single R G ∨ True) := Or.inr trivial
 have HBX : Hid (Box ((w.alloc (.cells #[.slice ra n c, .slice ga m d, .bool single] 25)).alloc (.cells #[.slice sa m sc, .int .i64 V0] 31)) w.heap.size 25 #[.slice ra n c, .slice ga m d, .bool single] ∧
  Box ((w.alloc (.cells #[.slice ra n c, .slice ga m d, .bool single] 25)).alloc (.cells #[.slice sa m sc, .int .i64 V0] 31)) (w.heap.size + 1) 31 #[.slice sa m sc, .int .i64 V0]) := ⟨(Box.new rfl).alloc _, Box.new (by simp)⟩
 obtain ⟨N, hN⟩ : ∃ N : Nat, ix R r = N := ⟨(ix R r).toNat, by have := hRb r hr; omega⟩
 have hN4 : N ≤ 4000 := by have := hRb r hr; omega
 obtain ⟨arr, hs, hz, hmk⟩ := make_bools N hN4
 have HMK := Lib.hid hmk
 have HROW0 : Hid (∀ W : World, BoolRow (W.alloc (.cells arr 4)) W.heap.size 4 (List.replicate N false)) := fun W => BoolRow.made rfl hs hz
 have HNR := Lib.hid hN
 have HARG : Hid (∀ x, Below w.heap.size w x → Ints x ra n R ∧ Pairs x ga m G ∧ Pairs x sa m S) := fun x hx => ⟨hR.below hx, hG.below hx, hS.below hx⟩
 have HV := Lib.hid hv
 have HL : Hid (R.length = n ∧ G.length = m ∧ S.length = m) := ⟨hR.1, hG.1, hS.1⟩
 clear hR hG hS hv hRb hs hz hmk HP hN
 go_enter Tryz.func62, Tryz.ntmps62
 go_upto_region 1 with fail
 generalize ((w.alloc (.cells #[.slice ra n c, .slice ga m d, .bool single] 25)).alloc (.cells #[.slice sa m sc, .int .i64 V0] 31)) = w1 at *
 have HB1 := Lib.hid hb0
 obtain ⟨rb, ro, rfl, r1⟩ := (HARG.out w1 hb0).1.2 r hr
 rw [HNR.out] at r1
 have p0 := HBX.out.1.cell 0
 simp only [List.getElem?_toArray, List.getElem?_cons_zero] at p0
 have hmk := HMK.out
 clear hb0
 go_upto_region 2 with fail
 clear p0 r1 hmk HMK
 have HB2 : Hid (Below w.heap.size w (w1.alloc (.cells arr 4))) := HB1.out.trans ((al _ _).mono HB1.out.size)
 have HBX2 : Hid (Box (w1.alloc (.cells arr 4)) w.heap.size 25 #[.slice (some ⟨rb, ro, none⟩) n c, .slice ga m d, .bool single] ∧ Box (w1.alloc (.cells arr 4)) (w.heap.size + 1) 31 #[.slice sa m sc, .int .i64 V0]) := ⟨HBX.out.1.alloc _, HBX.out.2.alloc _⟩
 have HROW : Hid (BoolRow (w1.alloc (.cells arr 4)) w1.heap.size 4 (List.replicate N false)) := HROW0.out w1
 have hob : w.heap.size + 1 < w1.heap.size := lt_of_block HBX.out.2
 generalize (w1.alloc (.cells arr 4)) = w2 at *
 obtain ⟨ob, hobe⟩ : ∃ x, w1.heap.size = x := ⟨_, rfl⟩
 simp only [hobe] at HROW hob ⊢
 clear hobe HROW0 HB1 HBX
 have HT0 : Hid (takenF R G S r 0 = some (List.replicate N false)) := by show _ = _; rw [takenF, HNR.out]; rfl
 go_wp2_with fail
 go_loopw [9, 10, 11] (fun v9 _ _ wr => ∃ (i : Nat) (D : List Bool), v9 = .int .i64 i ∧ i ≤ m ∧ Hid (takenF R G S r i = some D) ∧ Hid (BoolRow wr ob 4 D) ∧ Hid (Below w.heap.size w wr) ∧
   Hid (Box wr w.heap.size 25 #[.slice (some ⟨rb, ro, none⟩) n c, .slice ga m d, .bool single] ∧ Box wr (w.heap.size + 1) 31 #[.slice sa m sc, .int .i64 V0])) (fun v9 _ _ _ => m - (intOf v9).toNat)
 case atStart => exact ⟨0, _, rfl, Nat.zero_le _, HT0, HROW, HB2, HBX2⟩
 case round =>
  clear HROW HB2 HBX2 HT0
  obtain ⟨i, D, rfl, hi, HTK, HROW, HB, HBX⟩ := hrel
  have x0 := HBX.out.2.cell 0
  simp only [List.getElem?_toArray, List.getElem?_cons_zero] at x0
  by_cases hlt : i < m
  ·
   obtain ⟨sb, so, rfl, s1, s2⟩ := (HARG.out wr HB.out).2.2.2 i hlt
   obtain ⟨t, ht⟩ : ∃ x, gs S i = x := ⟨_, rfl⟩
   obtain ⟨f, hf⟩ : ∃ x, gv S i = x := ⟨_, rfl⟩
   have HTF : Hid (gs S i = t ∧ gv S i = f) := ⟨ht, hf⟩
   rw [ht] at s1; rw [hf] at s2
   have HSB : Hid (Box (wr.alloc (.cells #[.int .i64 t, .int .i64 f] 46)) wr.heap.size 46 #[.int .i64 t, .int .i64 f]) := Box.new rfl
   have HBE : Hid (Below wr.heap.size wr (wr.alloc (.cells #[.int .i64 t, .int .i64 f] 46))) := al _ _
   have hDl : D.length = N := by have := takenF_len _ _ HTK.out; rw [HNR.out] at this; simpa using this
   have HDL := Lib.hid hDl
   clear ht hf hDl
   go_upto_region 6 with fail
   generalize (wr.alloc (.cells #[.int .i64 t, .int .i64 f] 46)) = w5 at *
   have HB5 : Hid (Below w.heap.size w w5) := HB.out.trans (HBE.out.mono HB.out.size)
   have HBX5 : Hid (Box w5 w.heap.size 25 #[.slice (some ⟨rb, ro, none⟩) n c, .slice ga m d, .bool single] ∧ Box w5 (w.heap.size + 1) 31 #[.slice (some ⟨sb, so, none⟩) m sc, .int .i64 V0]) := ⟨HBX.out.1.below HBE.out, HBX.out.2.below HBE.out⟩
   have HROW5 : Hid (BoolRow w5 ob 4 D) := HROW.out.of_heap (HBE.out.block _ HROW.out.lt)
   have hbo : ob < wr.heap.size := HROW.out.lt
   have b0 := HSB.out.cell 0
   have b1 := HSB.out.cell 1
   simp only [List.getElem?_toArray, List.getElem?_cons_zero, List.getElem?_cons_succ] at b0 b1
   clear x0 s1 s2 HROW HB HBX
   by_cases hrun : t = (r : Int)
   ·
    subst hrun
    have t1 : ((r : Int) != (r : Int)) = false := by simp
    have hgg := (HV.out i (by rw [HL.out.2.1]; exact hlt)).1
    obtain ⟨gb, go, rfl, d1, _⟩ := (HARG.out w5 HB5.out).2.1.2 i hlt
    obtain ⟨s, hs⟩ : ∃ x, gs G i = x := ⟨_, rfl⟩
    have HS := Lib.hid hs
    rw [hs] at d1 hgg
    obtain ⟨rb', ro', e, r1⟩ := (HARG.out w5 HB5.out).1.2 r hr
    simp only [Option.some.injEq, Addr.mk.injEq, and_true] at e
    obtain ⟨rfl, rfl⟩ := e
    rw [HNR.out] at r1
    have p0 := HBX5.out.1.cell 0
    have p1 := HBX5.out.1.cell 1
    simp only [List.getElem?_toArray, List.getElem?_cons_zero, List.getElem?_cons_succ] at p0 p1
    clear hs
    have HSTEP : Hid (takenF R G S r (i + 1) = if f < 0 ∨ (N : Int) < f ∨ (N : Int) < f + s then none else fillB D f.toNat s.toNat) := by
     show _ = _
     rw [takenF, HTK.out, Option.bind_some, HTF.out.1, HTF.out.2, HS.out, HNR.out]
     simp
    by_cases h1 : f < 0
    ·
     have e1 : decide (f < 0) = true := by simp; exact h1
     have HN : Hid (takenF R G S r m = none) := takenF_none _ _ _ _ m (i + 1) (by omega) (by rw [HSTEP.out, if_pos (Or.inl h1)])
     go_wp2_with fail
     go_quiet (fail)
     go_wp2_with fail
     exact bodyPost_ret (v := .tuple #[.slice none 0 0, .bool false]) (by simp [results, Tryz.results62, go_sem]) rfl ⟨below_drewN HB5.out _, Or.inl ⟨HN.out, rfl⟩⟩
    ·
     have e1 : decide (f < 0) = false := by simp; omega
     by_cases h2 : (N : Int) < f
     ·
      have e2 : decide ((N : Int) < f) = true := by simp; exact h2
      have HN : Hid (takenF R G S r m = none) := takenF_none _ _ _ _ m (i + 1) (by omega) (by rw [HSTEP.out, if_pos (Or.inr (Or.inl h2))])
      go_wp2_with fail
      go_quiet (fail)
      go_wp2_with fail
      exact bodyPost_ret (v := .tuple #[.slice none 0 0, .bool false]) (by simp [results, Tryz.results62, go_sem]) rfl ⟨below_drewN HB5.out _, Or.inl ⟨HN.out, rfl⟩⟩
     ·
      have e2 : decide ((N : Int) < f) = false := by simp; omega
      obtain ⟨F, rfl⟩ : ∃ F : Nat, f = F := ⟨f.toNat, by omega⟩
      obtain ⟨s, rfl⟩ : ∃ S : Nat, s = S := ⟨s.toNat, by omega⟩
      have HW : Hid (IntKind.i64.wrap ((F : Int) + (s : Int)) = (F : Int) + (s : Int)) := i64_in _ (by omega)
      obtain ⟨Q, hQ⟩ : ∃ Q : Nat, F + s = Q := ⟨_, rfl⟩
      have HWQ : Hid (IntKind.i64.wrap ((F : Int) + (s : Int)) = (Q : Int)) := by show _ = _; rw [HW.out]; omega
      have HQ := Lib.hid hQ
      have h2' : ¬ N < F := by omega
      have e2' : decide (N < F) = false := decide_eq_false h2'
      clear e2
      by_cases h3 : N < Q
      ·
       have e3 : decide (N < Q) = true := decide_eq_true h3
       have HN : Hid (takenF R G S r m = none) := takenF_none _ _ _ _ m (i + 1) (by omega) (by rw [HSTEP.out, if_pos (Or.inr (Or.inr (by omega)))])
       have hw := HWQ.out
       clear hQ
       go_wp2_with fail
       go_quiet (fail)
       go_wp2_with fail
       exact bodyPost_ret (v := .tuple #[.slice none 0 0, .bool false]) (by simp [results, Tryz.results62, go_sem]) rfl ⟨below_drewN HB5.out _, Or.inl ⟨HN.out, rfl⟩⟩
      ·
       have e3 : decide (N < Q) = false := decide_eq_false h3
       have HSTEP2 : Hid (takenF R G S r (i + 1) = fillB D F s) := by show _ = _; rw [HSTEP.out, if_neg (by omega)]; simp
       have hFQ : F ≤ Q := by omega
       have hQN : Q ≤ N := by omega
       have HF0 : Hid (fillB D F (F - F) = some D) := by show _ = _; rw [Nat.sub_self]; rfl
       have HNO : Hid (∀ K, K < Q → F ≤ K → fillB D F (K + 1 - F) = none → takenF R G S r m = none) := fun K hK hKF h => takenF_none _ _ _ _ m (i + 1) (by omega) (by rw [HSTEP2.out]; exact fillB_none D F s (K + 1 - F) (by omega) h)
       have HSB5 : Hid (Box w5 wr.heap.size 46 #[.int .i64 (r : Int), .int .i64 (F : Int)]) := HSB.out
       have HEND : Hid (fillB D F (Q - F) = fillB D F s) := by show _ = _; rw [← hQ, Nat.add_sub_cancel_left]
       have HWQ2 := HWQ
       have hw := HWQ.out
       clear hQ
       go_wp2_with fail
       go_quiet (fail)
       go_upto_region 9 with fail
       clear hw HW HWQ e1 e2' e3 r1 p0 p1 b0 d1
       go_wp2_with fail
       clear b1
       obtain ⟨wo, rfl⟩ : ∃ wo : World, wo = wr := ⟨_, rfl⟩
       go_loopw [11] (fun v11 wx => ∃ (K : Nat) (E : List Bool), v11 = .int .i64 K ∧ F ≤ K ∧ K ≤ Q ∧ Hid (fillB D F (K - F) = some E) ∧ Hid (BoolRow wx ob 4 E) ∧ Hid (Below w.heap.size w wx) ∧ Hid (Box wx wo.heap.size 46 #[.int .i64 (r : Int), .int .i64 (F : Int)]) ∧
         Hid (Box wx w.heap.size 25 #[.slice (some ⟨rb, ro, none⟩) n c, .slice (some ⟨gb, go, none⟩) m d, .bool single] ∧ Box wx (w.heap.size + 1) 31 #[.slice (some ⟨sb, so, none⟩) m sc, .int .i64 V0])) (fun v11 _ => Q - (intOf v11).toNat)
       case atStart => exact ⟨F, D, rfl, Nat.le_refl _, hFQ, HF0, HROW5, below_drewN HB5.out _, HSB5, HBX5⟩
       case round =>
        clear HROW5 HB5 HBX5 HSB5 HF0 HSB HBE
        obtain ⟨K, E, rfl, hK1, hK2, HFE, HRE, HBK, HSK, HBXK⟩ := hrel
        have b1 := HSK.out.cell 1
        have p1 := HBXK.out.1.cell 1
        obtain ⟨gb', go', e, d1, _⟩ := (HARG.out wr HBK.out).2.1.2 i hlt
        simp only [Option.some.injEq, Addr.mk.injEq, and_true] at e
        obtain ⟨rfl, rfl⟩ := e
        rw [HS.out] at d1
        simp only [List.getElem?_toArray, List.getElem?_cons_zero, List.getElem?_cons_succ] at b1 p1
        have hEl : E.length = N := by
         have := (fillB_some D F (K - F) E (by rw [HDL.out]; omega) HFE.out).1
         rw [this, HDL.out]
        have HEL := Lib.hid hEl
        clear hEl
        by_cases hq : K < Q
        ·
         have hKN : K < N := by omega
         have cd := HRE.out.cell K (by rw [HEL.out]; exact hKN)
         obtain ⟨q, hqq⟩ : ∃ b, bx E K = b := ⟨_, rfl⟩
         rw [hqq] at cd
         have HQQ := Lib.hid hqq
         have HST : Hid (fillB D F (K + 1 - F) = if q = true then none else some (E.set K true)) := by
          show _ = _
          rw [show K + 1 - F = (K - F) + 1 from by omega, fillB, HFE.out, Option.bind_some, show F + (K - F) = K from by omega, hqq]
         have cf := HRE.out.free K
         clear hqq
         have hw := HWQ2.out
         cases q
         ·
          have HSET2 : Hid (∀ q, BoolRow ((wr.drewN q).setCell ⟨ob, K, none⟩ (.bool true)) ob 4 (E.set K true) ∧ Below w.heap.size w ((wr.drewN q).setCell ⟨ob, K, none⟩ (.bool true)) ∧ Box ((wr.drewN q).setCell ⟨ob, K, none⟩ (.bool true)) wo.heap.size 46 #[.int .i64 (r : Int), .int .i64 (F : Int)] ∧
            Box ((wr.drewN q).setCell ⟨ob, K, none⟩ (.bool true)) w.heap.size 25 #[.slice (some ⟨rb, ro, none⟩) n c, .slice (some ⟨gb, go, none⟩) m d, .bool single] ∧ Box ((wr.drewN q).setCell ⟨ob, K, none⟩ (.bool true)) (w.heap.size + 1) 31 #[.slice (some ⟨sb, so, none⟩) m sc, .int .i64 V0]) := fun q =>
           ⟨(show BoolRow (wr.drewN q) ob 4 E from HRE.out).set K (by rw [HEL.out]; exact hKN) true, (below_drewN HBK.out q).setCell (by show w.heap.size ≤ ob; omega) _, (show Box (wr.drewN q) _ _ _ from HSK.out).of_heap (heap_set _ (by omega)), (show Box (wr.drewN q) _ _ _ from HBXK.out.1).of_heap (heap_set _ (by omega)), (show Box (wr.drewN q) _ _ _ from HBXK.out.2).of_heap (heap_set _ (by omega))⟩
          have HST2 : Hid (fillB D F (K + 1 - F) = some (E.set K true)) := HST.out
          go_wp2_with fail
          go_quiet (fail)
          go_upto_region 14 with fail
          clear hw b1 p1 d1
          go_wp2_with fail
          go_roundw
          case rel => exact ⟨K + 1, E.set K true, by go_num, by omega, by omega, HST2, (HSET2.out _).1, (HSET2.out _).2.1, (HSET2.out _).2.2.1, (HSET2.out _).2.2.2⟩
          case measure => simp [intOf]; omega
         ·
          have HN : Hid (takenF R G S r m = none) := HNO.out K hq hK1 (by rw [HST.out]; rfl)
          go_wp2_with fail
          go_quiet (fail)
          go_wp2_with fail
          exact bodyPost_ret (v := .tuple #[.slice none 0 0, .bool false]) (by simp [results, Tryz.results62, go_sem]) rfl ⟨below_drewN HBK.out _, Or.inl ⟨HN.out, rfl⟩⟩
        ·
         obtain rfl : K = Q := by omega
         have HST3 : Hid (takenF R G S r (i + 1) = some E) := by show _ = _; rw [HSTEP2.out, ← HEND.out]; exact HFE.out
         have hw := HWQ2.out
         go_wp2_with fail
         go_quiet (fail)
         go_wp2_with fail
         go_roundw
         case rel => exact ⟨i + 1, E, by go_num, by omega, HST3, HRE, below_drewN HBK.out _, HBXK⟩
         case measure => simp [intOf]; omega
   ·
    have t1 : (t != (r : Int)) = true := by simp; exact hrun
    have HSTEP : Hid (takenF R G S r (i + 1) = some D) := by show _ = _; rw [takenF, HTK.out, Option.bind_some, HTF.out.1, if_pos hrun]
    clear hrun
    go_wp2_with fail
    go_roundw
    case rel => exact ⟨i + 1, D, by go_num, by omega, HSTEP, HROW5, HB5, HBX5⟩
    case measure => simp [intOf]; omega
  ·
   obtain rfl : i = m := by omega
   have hDl : D.length = N := by have := takenF_len _ _ HTK.out; rw [HNR.out] at this; simpa using this
   subst hDl
   have HBO := Lib.hid HROW.out.bools
   go_wp2_with fail
   exact bodyPost_ret (v := .tuple #[.slice (some ⟨ob, 0, none⟩) D.length D.length, .bool true]) (by simp [results, Tryz.results62, go_sem]) rfl ⟨HB.out, Or.inr ⟨D, _, _, HTK.out, rfl, HBO.out⟩⟩
end Go.Proofs.YthabgljdndbphaaGreatDoor

namespace Go.Proofs.YthabgljdndbphaaGreatDoor
open Go.RowKit Go.IntWalk


/-- What Legal returns. -/
def LegalPost (P : Prop) (w : World) (e : Ending) (w' : World) : Prop := ∃ q, e = .returned (.bool q) ∧ Below w.heap.size w w' ∧ (q = true ↔ P)

theorem LegalPost.no {P : Prop} {w w' : World} (hb : Below w.heap.size w w') (h : ¬ P) : LegalPost P w (.returned (.bool false)) w' := ⟨false, rfl, hb, by simp [h]⟩

set_option maxRecDepth 20000 in
set_option maxHeartbeats 3200000 in
theorem refLegal_any (ra ga sa : Option Addr) (n c m d k sc : Nat) (single : Bool) (V0 : Int) (R : List Int) (G S : List (Int × Int)) (w : World)
  (hn : n ≤ 4000) (hm : m ≤ 4000) (_hk : k ≤ 4000) (hR : Ints w ra n R) (hG : Pairs w ga m G) (hS : Pairs w sa k S) :
  Calls Tryz.prog 48 #[.agg #[.slice ra n c, .slice ga m d, .bool single], .agg #[.slice sa k sc, .int .i64 V0]] w (LegalPost (LegalR single R G S V0) w) := by
 have hb0 : Below w.heap.size w ((w.alloc (.cells #[.slice ra n c, .slice ga m d, .bool single] 25)).alloc (.cells #[.slice sa k sc, .int .i64 V0] 31)) := ((Below.refl _ _).alloc (Nat.le_refl _) _).alloc (by simp) _
 have HBX0 : Hid (Box ((w.alloc (.cells #[.slice ra n c, .slice ga m d, .bool single] 25)).alloc (.cells #[.slice sa k sc, .int .i64 V0] 31)) w.heap.size 25 #[.slice ra n c, .slice ga m d, .bool single] ∧
  Box ((w.alloc (.cells #[.slice ra n c, .slice ga m d, .bool single] 25)).alloc (.cells #[.slice sa k sc, .int .i64 V0] 31)) (w.heap.size + 1) 31 #[.slice sa k sc, .int .i64 V0]) := ⟨(Box.new rfl).alloc _, Box.new (by simp)⟩
 have HARG : Hid (∀ x, Below w.heap.size w x → Ints x ra n R ∧ Pairs x ga m G ∧ Pairs x sa k S) := fun x hx => ⟨hR.below hx, hG.below hx, hS.below hx⟩
 have HL : Hid (R.length = n ∧ G.length = m ∧ S.length = k) := ⟨hR.1, hG.1, hS.1⟩
 have HB0 := Lib.hid hb0
 obtain ⟨vb, hvb⟩ : ∃ b, validS R G = b := ⟨_, rfl⟩
 have HVB := Lib.hid hvb
 clear hR hG hS hb0 hvb
 go_enter Tryz.func48, Tryz.ntmps48
 go_upto_region 1 with fail
 generalize ((w.alloc (.cells #[.slice ra n c, .slice ga m d, .bool single] 25)).alloc (.cells #[.slice sa k sc, .int .i64 V0] 31)) = w0 at *
 have p0 := HBX0.out.1.cell 0
 have p1 := HBX0.out.1.cell 1
 have p2 := HBX0.out.1.cell 2
 simp only [List.getElem?_toArray, List.getElem?_cons_zero, List.getElem?_cons_succ] at p0 p1 p2
 go_wp2_with fail
 refine (refvalid_any ra ga n c m d single vb R G w0 hn hm (HARG.out w0 HB0.out).1 (HARG.out w0 HB0.out).2.1 HVB.out).mono ?_
 rintro e w1 ⟨rfl, hb⟩
 have HBX1 : Hid (Box w1 w.heap.size 25 #[.slice ra n c, .slice ga m d, .bool single] ∧ Box w1 (w.heap.size + 1) 31 #[.slice sa k sc, .int .i64 V0]) := ⟨HBX0.out.1.below hb, HBX0.out.2.below hb⟩
 have HB1 := Lib.hid (HB0.out.trans (hb.mono HB0.out.size))
 clear hb p0 p1 p2 HBX0 HB0
 have p0 := HBX1.out.1.cell 0
 have p1 := HBX1.out.1.cell 1
 have x0 := HBX1.out.2.cell 0
 simp only [List.getElem?_toArray, List.getElem?_cons_zero, List.getElem?_cons_succ] at p0 p1 x0
 cases vb
 ·
  have HNO : Hid (¬ LegalR single R G S V0) := fun h => by have := h.1; rw [HVB.out] at this; simp at this
  go_wp2_with fail
  go_ret
  exact LegalPost.no HB1.out HNO.out
 by_cases hkm : m = k
 rotate_left
 ·
  have t1 : ((k : Int) != (m : Int)) = true := by simp; omega
  have HNO : Hid (¬ LegalR single R G S V0) := fun h => by have := h.2.1; rw [HL.out.2.1, HL.out.2.2] at this; omega
  go_wp2_with fail
  go_ret
  exact LegalPost.no HB1.out HNO.out
 have t1 : ((k : Int) != (m : Int)) = false := by simp; omega
 subst hkm
 have HV := Lib.hid (validS_parts HVB.out).2.2
 have HRB : Hid (∀ r, r < n → 0 ≤ ix R r ∧ ix R r ≤ 4000) := fun r hr => by
  have := (runsOk_sum R 4000 (by omega) (validS_parts HVB.out).1).2.2 r (by rw [HL.out.1]; exact hr)
  omega
 go_upto_region 4 with fail
 clear t1 p0 p1 x0
 go_wp2_with fail
 go_loopw [5, 6, 7] (fun v5 v6 _ wr => ∃ (i : Nat) (v : Int), v6 = .int .i64 i ∧ v5 = .int .i64 v ∧ i ≤ m ∧ 0 ≤ v ∧ v ≤ 12000000 * i ∧ Hid (valR G S i = v) ∧ Hid (∀ q, q < i → ¬ badSpotR R S q) ∧ Hid (Below w.heap.size w wr) ∧
   Hid (Box wr w.heap.size 25 #[.slice ra n c, .slice ga m d, .bool single] ∧ Box wr (w.heap.size + 1) 31 #[.slice sa m sc, .int .i64 V0])) (fun _ v6 _ _ => m - (intOf v6).toNat)
 case atStart => exact ⟨0, 0, rfl, rfl, Nat.zero_le _, by omega, by omega, rfl, fun q hq => absurd hq (by omega), HB1, HBX1⟩
 case round =>
  clear HB1 HBX1
  obtain ⟨i, v, rfl, rfl, hi, hv0, hv1, HVAL, HOK, HB, HBX⟩ := hrel
  have x0 := HBX.out.2.cell 0
  simp only [List.getElem?_toArray, List.getElem?_cons_zero] at x0
  by_cases hlt : i < m
  ·
   obtain ⟨sb, so, rfl, s1, s2⟩ := (HARG.out wr HB.out).2.2.2 i hlt
   obtain ⟨t, ht⟩ : ∃ x, gs S i = x := ⟨_, rfl⟩
   obtain ⟨f, hf⟩ : ∃ x, gv S i = x := ⟨_, rfl⟩
   have HBS : Hid (badSpotR R S i ↔ t < -1 ∨ (n : Int) ≤ t ∨ (t < 0 ∧ f ≠ 0)) := by show _ ↔ _; unfold badSpotR; rw [ht, hf, HL.out.1]
   have HTF : Hid (gs S i = t ∧ gv S i = f) := ⟨ht, hf⟩
   rw [ht] at s1; rw [hf] at s2
   have HSB : Hid (Box (wr.alloc (.cells #[.int .i64 t, .int .i64 f] 46)) wr.heap.size 46 #[.int .i64 t, .int .i64 f]) := Box.new rfl
   have HBE : Hid (Below wr.heap.size wr (wr.alloc (.cells #[.int .i64 t, .int .i64 f] 46))) := al _ _
   have HNO : Hid (badSpotR R S i → ¬ LegalR single R G S V0) := fun h hL => hL.2.2.1 i (by rw [HL.out.2.1]; exact hlt) h
   clear ht hf
   go_upto_region 8 with fail
   generalize (wr.alloc (.cells #[.int .i64 t, .int .i64 f] 46)) = w5 at *
   have HB5 : Hid (Below w.heap.size w w5) := HB.out.trans (HBE.out.mono HB.out.size)
   have HBX5 : Hid (Box w5 w.heap.size 25 #[.slice ra n c, .slice ga m d, .bool single] ∧ Box w5 (w.heap.size + 1) 31 #[.slice (some ⟨sb, so, none⟩) m sc, .int .i64 V0]) := ⟨HBX.out.1.below HBE.out, HBX.out.2.below HBE.out⟩
   have b0 := HSB.out.cell 0
   have b1 := HSB.out.cell 1
   have p0 := HBX5.out.1.cell 0
   have p1 := HBX5.out.1.cell 1
   simp only [List.getElem?_toArray, List.getElem?_cons_zero, List.getElem?_cons_succ] at b0 b1 p0 p1
   clear x0 s1 s2 HB HBX HBE
   by_cases h1 : t < -1
   ·
    have e1 : decide (t < -1) = true := by simp; exact h1
    have HN := Lib.hid (HNO.out (HBS.out.mpr (Or.inl h1)))
    go_wp2_with fail
    go_ret
    exact LegalPost.no HB5.out HN.out
   ·
    have e1 : decide (t < -1) = false := by simp; omega
    by_cases h2 : (n : Int) ≤ t
    ·
     have e2 : decide ((n : Int) ≤ t) = true := by simp; exact h2
     have HN := Lib.hid (HNO.out (HBS.out.mpr (Or.inr (Or.inl h2))))
     go_wp2_with fail
     go_ret
     exact LegalPost.no HB5.out HN.out
    ·
     have e2 : decide ((n : Int) ≤ t) = false := by simp; omega
     by_cases h3 : t < 0
     ·
      have e3 : decide (t < 0) = true := by simp; exact h3
      have e5 : decide (0 ≤ t) = false := by simp; omega
      by_cases h4 : f = 0
      ·
       have e4 : (f != 0) = false := by simp; exact h4
       have HOK2 : Hid (∀ q, q < i + 1 → ¬ badSpotR R S q) := fun q hq => by
        by_cases e : q = i
        ·
         subst e; rw [HBS.out]; omega
        ·
         exact HOK.out q (by omega)
       have HVAL2 : Hid (valR G S (i + 1) = v) := by show _ = _; rw [valR, sumRows, ← valR, HVAL.out, HTF.out.1, if_neg (by omega)]; omega
       clear h4
       go_wp2_with fail
       go_roundw
       case rel => exact ⟨i + 1, v, by go_num, rfl, by omega, by omega, by omega, HVAL2, HOK2, HB5, HBX5⟩
       case measure => simp [intOf]; omega
      ·
       have e4 : (f != 0) = true := by simp; exact h4
       have HN := Lib.hid (HNO.out (HBS.out.mpr (Or.inr (Or.inr ⟨h3, h4⟩))))
       go_wp2_with fail
       go_ret
       exact LegalPost.no HB5.out HN.out
     ·
      have e3 : decide (t < 0) = false := by simp; omega
      have e5 : decide (0 ≤ t) = true := by simp; omega
      have HOK2 : Hid (∀ q, q < i + 1 → ¬ badSpotR R S q) := fun q hq => by
       by_cases e : q = i
       ·
        subst e; rw [HBS.out]; omega
       ·
        exact HOK.out q (by omega)
      have hgg := HV.out i (by rw [HL.out.2.1]; exact hlt)
      obtain ⟨gb, go, rfl, d1, d2⟩ := (HARG.out w5 HB5.out).2.1.2 i hlt
      obtain ⟨s, hs⟩ : ∃ x, gs G i = x := ⟨_, rfl⟩
      obtain ⟨u, hu⟩ : ∃ x, gv G i = x := ⟨_, rfl⟩
      rw [hs] at d1 hgg; rw [hu] at d2 hgg
      have HVAL2 : Hid (valR G S (i + 1) = v + s * u) := by show _ = _; rw [valR, sumRows, ← valR, HVAL.out, HTF.out.1, if_pos (by omega), hs, hu]
      have m0 : 0 ≤ s * u := Int.mul_nonneg (by omega) (by omega)
      have m1 : s * u ≤ 12 * u := Int.mul_le_mul_of_nonneg_right hgg.1.2 hgg.2.1
      have m2 : s * u ≤ 12000000 := by omega
      have HW : Hid (IntKind.i64.wrap (s * u) = s * u ∧ IntKind.i64.wrap (v + s * u) = v + s * u) := ⟨i64_in _ (by omega), i64_in _ (by omega)⟩
      have hv2 : 0 ≤ v + s * u := by omega
      have hv3 : v + s * u ≤ 12000000 * (i + 1 : Nat) := by omega
      have hi1 : i + 1 ≤ m := hlt
      clear hs hu m1
      have hw1 := HW.out.1
      have hw2 := HW.out.2
      go_wp2_with fail
      go_quiet (fail)
      go_wp2_with fail
      go_roundw
      case rel => exact ⟨i + 1, v + s * u, by go_num, rfl, hi1, hv2, hv3, HVAL2, HOK2, below_drewN HB5.out _, HBX5⟩
      case measure => clear hw1 hw2; simp [intOf]; omega
  ·
   obtain rfl : i = m := by omega
   go_upto_region 12 with fail
   clear x0
   go_wp2_with fail
   go_loopw [8, 9, 10] (fun v8 _ _ wr => ∃ (r : Nat), v8 = .int .i64 r ∧ r ≤ n ∧ Hid (∀ q, q < r → badRunR single R G S q = false) ∧ Hid (Below w.heap.size w wr) ∧
    Hid (Box wr w.heap.size 25 #[.slice ra n c, .slice ga i d, .bool single] ∧ Box wr (w.heap.size + 1) 31 #[.slice sa i sc, .int .i64 V0])) (fun v8 _ _ _ => n - (intOf v8).toNat)
   case atStart => exact ⟨0, rfl, Nat.zero_le _, fun q hq => absurd hq (by omega), HB, HBX⟩
   case round =>
    clear HB HBX
    obtain ⟨r, rfl, hr, HRU, HB, HBX⟩ := hrel
    have p0 := HBX.out.1.cell 0
    have p1 := HBX.out.1.cell 1
    have p2 := HBX.out.1.cell 2
    have x0 := HBX.out.2.cell 0
    have x1 := HBX.out.2.cell 1
    simp only [List.getElem?_toArray, List.getElem?_cons_zero, List.getElem?_cons_succ] at p0 p1 p2 x0 x1
    by_cases hrn : r < n
    ·
     have HNO : Hid (badRunR single R G S r = true → ¬ LegalR single R G S V0) := fun h hL => by
      have := hL.2.2.2.1 r (by rw [HL.out.1]; exact hrn)
      rw [h] at this; simp at this
     have HBR : Hid (badRunR single R G S r = match takenF R G S r i with | none => true | some D => single && aloneB D) := by
      show _ = _
      unfold badRunR
      rw [HL.out.2.1]
      try (cases takenF R G S r i <;> rfl)
     have HDLN : Hid (∀ D, takenF R G S r i = some D → D.length ≤ 4000) := fun D h => by
      have h1 := takenF_len _ _ h
      have h2 := HRB.out r hrn
      omega
     have HRU2 : Hid (badRunR single R G S r = false → ∀ q, q < r + 1 → badRunR single R G S q = false) := fun h q hq => by
      by_cases e : q = r
      ·
       subst e; exact h
      ·
       exact HRU.out q (by omega)
     go_wp2_with fail
     refine (taken_any ra ga sa n c i d sc r single V0 R G S wr hn hm hrn (HARG.out wr HB.out).1 (HARG.out wr HB.out).2.1 (HARG.out wr HB.out).2.2 HV.out HRB.out).mono ?_
     rintro e w6 ⟨hb, hcase⟩
     have HB6 := Lib.hid (HB.out.trans (hb.mono HB.out.size))
     have HBX6 : Hid (Box w6 w.heap.size 25 #[.slice ra n c, .slice ga i d, .bool single] ∧ Box w6 (w.heap.size + 1) 31 #[.slice sa i sc, .int .i64 V0]) := ⟨HBX.out.1.below hb, HBX.out.2.below hb⟩
     clear hb p0 p1 p2 x0 x1
     have p2 := HBX6.out.1.cell 2
     simp only [List.getElem?_toArray, List.getElem?_cons_zero, List.getElem?_cons_succ] at p2
     rcases hcase with ⟨ho, rfl⟩ | ⟨D, la, lc, ho, rfl, hD⟩
     ·
      have HN := Lib.hid (HNO.out (by rw [HBR.out, ho]))
      clear ho
      go_wp2_with fail
      go_ret
      exact LegalPost.no HB6.out HN.out
     ·
      have HDL := Lib.hid (HDLN.out D ho)
      have HBR2 : Hid (badRunR single R G S r = (single && aloneB D)) := by show _ = _; rw [HBR.out, ho]
      have HD := Lib.hid hD
      clear ho hD
      cases single
      ·
       have HRU3 := Lib.hid (HRU2.out (by rw [HBR2.out]; rfl))
       go_wp2_with fail
       go_roundw
       case rel => exact ⟨r + 1, by go_num, by omega, HRU3, HB6, HBX6⟩
       case measure => simp [intOf]; omega
      ·
       obtain ⟨al', hal⟩ : ∃ b, aloneB D = b := ⟨_, rfl⟩
       have HAL := Lib.hid hal
       clear hal
       go_wp2_with fail
       refine (alone_any la D.length lc D w6 (Nat.le_trans HDL.out (by decide)) HD.out).mono ?_
       rintro e w7 ⟨rfl, rfl⟩
       rw [HAL.out]
       cases al'
       ·
        have HRU3 := Lib.hid (HRU2.out (by rw [HBR2.out, HAL.out]; rfl))
        go_wp2_with fail
        go_roundw
        case rel => exact ⟨r + 1, by go_num, by omega, HRU3, HB6, HBX6⟩
        case measure => simp [intOf]; omega
       ·
        have HN := Lib.hid (HNO.out (by rw [HBR2.out, HAL.out]; rfl))
        go_wp2_with fail
        go_ret
        exact LegalPost.no HB6.out HN.out
    ·
     obtain rfl : r = n := by omega
     obtain ⟨q, hq⟩ : ∃ b, (v == V0) = b := ⟨_, rfl⟩
     have HQ : Hid (q = true ↔ LegalR single R G S V0) := by
      show _ ↔ _
      rw [← hq, beq_iff_eq]
      constructor
      ·
       intro e
       exact ⟨HVB.out, by rw [HL.out.2.1, HL.out.2.2], fun k hk => HOK.out k (by rw [← HL.out.2.1]; exact hk), fun q hq => HRU.out q (by rw [← HL.out.1]; exact hq), by rw [HL.out.2.1, HVAL.out]; exact e⟩
      ·
       intro h
       have := h.2.2.2.2
       rw [HL.out.2.1, HVAL.out] at this
       exact this
     go_wp2_with fail
     go_ret
     exact ⟨q, rfl, HB.out, HQ.out⟩
end Go.Proofs.YthabgljdndbphaaGreatDoor

namespace Go.Proofs.YthabgljdndbphaaGreatDoor
open Go.RowKit Go.IntWalk Go.Maps Go.WideMaps
set_option linter.unusedSimpArgs false
set_option linter.unusedVariables false

/-- A packing in a variable. -/
structure PxAt (w : World) (gx : Nat) (sa : Option Addr) (k sc : Nat) (V0 : Int) (S : List (Int × Int)) : Prop where
 box : w.heap[gx]? = some (.cells #[.slice sa k sc, .int .i64 V0] 31 (0, 0))
 spots : Pairs w sa k S
theorem PxAt.below {w w' : World} {gx : Nat} {sa : Option Addr} {k sc : Nat} {V0 : Int} {S : List (Int × Int)} (h : PxAt w gx sa k sc V0 S) (hb : Below w.heap.size w w') : PxAt w' gx sa k sc V0 S :=
 ⟨(hb.block _ (lt_of_block h.box)).trans h.box, h.spots.below hb⟩
/-- A packing's variable is made and stored. -/
theorem px_var {w : World} {sa : Option Addr} {k sc : Nat} {V0 : Int} {S : List (Int × Int)} (hS : Pairs w sa k S) :
  ∃ wa gx, w.alloc (.cells #[.slice none 0 0, .int .i64 0] 31) = wa ∧ gx = w.heap.size ∧ (storeVar 31 ⟨gx, 0, none⟩ (.agg #[.slice sa k sc, .int .i64 V0])).run Tryz.prog wa = .ok () (wa.setRow gx #[.slice sa k sc, .int .i64 V0]) ∧
   Hid (Below w.heap.size w (wa.setRow gx #[.slice sa k sc, .int .i64 V0]) ∧ PxAt (wa.setRow gx #[.slice sa k sc, .int .i64 V0]) gx sa k sc V0 S) := by
 obtain ⟨wa, g, e1, e2, hs, h⟩ := var_new w 31 #[.slice none 0 0, .int .i64 0] #[.slice sa k sc, .int .i64 V0] (by kernel_rfl) rfl (by simp [Value.oneCell'])
 exact ⟨wa, g, e1, e2, hs, h.1, h.2.1, hS.below h.1⟩
end Go.Proofs.YthabgljdndbphaaGreatDoor
