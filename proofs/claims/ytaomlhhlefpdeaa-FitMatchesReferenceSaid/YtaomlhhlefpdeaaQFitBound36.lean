/- foyerref24.sorted, whole; foyerref24.Seat. -/
import Derived.Test.YtaomlhhlefpdeaaQFitBound33
import Derived.Test.YtaomlhhlefpdeaaQFitBound35

namespace Go.Proofs.Ytaomlhhlefpdeaa
open Go.RowKit

theorem sorted_any (ga : Option Addr) (m d : Nat) (G : List (Int × Int)) (hv : ValuesOk G) : ∀ (N : Nat) (la : Option Addr) (n c : Nat) (L : List Int) (w : World), n < N → n ≤ 4000 → n ≤ c → Ints w la n L → Pairs w ga m G → L.Pairwise (· < ·) → (∀ x ∈ L, 0 ≤ x ∧ x < m) →
    Calls Try.prog 40 #[.slice la n c, .slice ga m d] w (SortedPost G n L w) := by
  intro N
  induction N with
  | zero => intro la n c L w h; omega
  | succ N ih => intro la n c L w h hn hc hL hG hs hr; exact sorted_step ga m d G hv N ih la n c L w (by omega) hn hc hL hG hs hr

theorem roomFrom_first (single : Bool) (R F L : List Int) (s : Int) (N : Nat) (h : ∀ k, k < N → ix F k = ix R k - ix L k) : ∀ (n k : Nat), k + n ≤ N → roomFrom single R F s k n = firstAt (fun k => fits single (ix L k - s)) k n := by
  intro n
  induction n with
  | zero => intro k _; rfl
  | succ n ih =>
    intro k hk
    rw [roomFrom, firstAt, ih (k + 1) (by omega), h k (by omega), show ix R k - (ix R k - ix L k) - s = ix L k - s from by omega]

theorem PairRow.set12 {w : World} {g : Nat} {T : TypeId} {S : List (Int × Int)} (h : PairRow w g T S) (i : Nat) (hi : i < S.length) (u v : Int) :
    PairRow ((w.setCell ⟨g, i * 2, none⟩ (.int .i64 u)).setCell ⟨g, i * 2 + 1, none⟩ (.int .i64 v)) g T (S.set i (u, v)) := by
  have h1 := (h.set1 i hi u).set2 i (by simpa using hi) v
  rw [gs_set _ _ _ _ hi, if_pos rfl] at h1
  simpa using h1

set_option maxRecDepth 10000 in
set_option maxHeartbeats 3200000 in
theorem refseat_any (ra ga oa : Option Addr) (n c m d no oc : Nat) (single : Bool) (R O : List Int) (G : List (Int × Int)) (w : World)
    (hn : n ≤ 4000) (hm : m ≤ 4000) (hno : no ≤ 4000) (hR : Ints w ra n R) (hG : Pairs w ga m G) (hO : Ints w oa no O) (hv : ValuesOk G) (hr : ∀ k, k < n → 1 ≤ ix R k ∧ ix R k ≤ 4000) (hx : ∀ x ∈ O, 0 ≤ x ∧ x < m) (hnd : O.Nodup) :
    Calls Try.prog 39 #[.agg #[.slice ra n c, .slice ga m d, .bool single], .slice oa no oc] w fun e w' => ∃ sa c', e = .returned (.agg #[.slice sa m c', .int .i64 (seatS single R G O).value]) ∧ Below w.heap.size w w' ∧ Pairs w' sa m (seatS single R G O).spots ∧ ∀ q, sa = some q → w.heap.size ≤ q.block := by
  obtain ⟨arr, hs, hz, hmk⟩ := make_spots m hm
  obtain ⟨arr2, hs2, hz2, hmk2⟩ := make_ints n hn
  have HR := Lib.hid hR; have HG := Lib.hid hG; have HO := Lib.hid hO; have HV := Lib.hid hv; have HRB := Lib.hid hr; have HX := Lib.hid hx; have HND := Lib.hid hnd
  clear hR hG hO hv hr hx hnd
  go_enter Try.func39, Try.ntmps39
  go_wp2
  have HBP : Hid (Box (((((w.alloc (.cells #[.slice ra n c, .slice ga m d, .bool single] 25)).alloc (.cells #[.slice none 0 0, .int .i64 0] 30)).alloc (.cells arr2 3)).alloc (.cells arr 39)).alloc (.cells #[.slice (some ⟨w.heap.size + 1 + 1 + 1, 0, none⟩) m m, .int .i64 0] 30)) w.heap.size 25 #[.slice ra n c, .slice ga m d, .bool single]) := ((((Box.new rfl).alloc _).alloc _).alloc _).alloc _
  have HBR : Hid (Box (((((w.alloc (.cells #[.slice ra n c, .slice ga m d, .bool single] 25)).alloc (.cells #[.slice none 0 0, .int .i64 0] 30)).alloc (.cells arr2 3)).alloc (.cells arr 39)).alloc (.cells #[.slice (some ⟨w.heap.size + 1 + 1 + 1, 0, none⟩) m m, .int .i64 0] 30)) (w.heap.size + 1) 30 #[.slice none 0 0, .int .i64 0]) := (((Box.new (by simp)).alloc _).alloc _).alloc _
  have HBX0 : Hid (Box (((((w.alloc (.cells #[.slice ra n c, .slice ga m d, .bool single] 25)).alloc (.cells #[.slice none 0 0, .int .i64 0] 30)).alloc (.cells arr2 3)).alloc (.cells arr 39)).alloc (.cells #[.slice (some ⟨w.heap.size + 1 + 1 + 1, 0, none⟩) m m, .int .i64 0] 30)) (w.heap.size + 1 + 1 + 1 + 1) 30 #[.slice (some ⟨w.heap.size + 1 + 1 + 1, 0, none⟩) m m, .int .i64 0]) := Box.new (by simp)
  have HIR0 : Hid (IntRow (((((w.alloc (.cells #[.slice ra n c, .slice ga m d, .bool single] 25)).alloc (.cells #[.slice none 0 0, .int .i64 0] 30)).alloc (.cells arr2 3)).alloc (.cells arr 39)).alloc (.cells #[.slice (some ⟨w.heap.size + 1 + 1 + 1, 0, none⟩) m m, .int .i64 0] 30)) (w.heap.size + 1 + 1) 3 (List.replicate n 0)) :=
    ((IntRow.made (w := (w.alloc (.cells #[.slice ra n c, .slice ga m d, .bool single] 25)).alloc (.cells #[.slice none 0 0, .int .i64 0] 30)) (T := 3) (by simp) hs2 hz2).of_heap (Below.heap_alloc _ _ _ (by simp))).of_heap (Below.heap_alloc _ _ _ (by simp))
  have HPR0 : Hid (PairRow (((((w.alloc (.cells #[.slice ra n c, .slice ga m d, .bool single] 25)).alloc (.cells #[.slice none 0 0, .int .i64 0] 30)).alloc (.cells arr2 3)).alloc (.cells arr 39)).alloc (.cells #[.slice (some ⟨w.heap.size + 1 + 1 + 1, 0, none⟩) m m, .int .i64 0] 30)) (w.heap.size + 1 + 1 + 1) 39 (List.replicate m (0, 0))) :=
    (PairRow.made (w := ((w.alloc (.cells #[.slice ra n c, .slice ga m d, .bool single] 25)).alloc (.cells #[.slice none 0 0, .int .i64 0] 30)).alloc (.cells arr2 3)) (T := 39) (by simp) hs hz).of_heap (Below.heap_alloc _ _ _ (by simp))
  have HB0 : Hid (Below w.heap.size w (((((w.alloc (.cells #[.slice ra n c, .slice ga m d, .bool single] 25)).alloc (.cells #[.slice none 0 0, .int .i64 0] 30)).alloc (.cells arr2 3)).alloc (.cells arr 39)).alloc (.cells #[.slice (some ⟨w.heap.size + 1 + 1 + 1, 0, none⟩) m m, .int .i64 0] 30))) :=
    (((((Below.refl _ _).alloc (Nat.le_refl _) _).alloc (by simp) _).alloc (by simp; omega) _).alloc (by simp; omega) _).alloc (by simp; omega) _
  have HSZ0 : Hid (w.heap.size + 5 ≤ (((((w.alloc (.cells #[.slice ra n c, .slice ga m d, .bool single] 25)).alloc (.cells #[.slice none 0 0, .int .i64 0] 30)).alloc (.cells arr2 3)).alloc (.cells arr 39)).alloc (.cells #[.slice (some ⟨w.heap.size + 1 + 1 + 1, 0, none⟩) m m, .int .i64 0] 30)).heap.size) := by simp [Hid]
  generalize (((((w.alloc (.cells #[.slice ra n c, .slice ga m d, .bool single] 25)).alloc (.cells #[.slice none 0 0, .int .i64 0] 30)).alloc (.cells arr2 3)).alloc (.cells arr 39)).alloc (.cells #[.slice (some ⟨w.heap.size + 1 + 1 + 1, 0, none⟩) m m, .int .i64 0] 30)) = w5 at *
  clear hmk hmk2 hs hz hs2 hz2
  generalize hbF : w.heap.size + 1 + 1 = bF at *
  generalize hbS : bF + 1 = bS at *
  generalize hbX : bS + 1 = bX at *
  have hn1 : w.heap.size + 1 < bF := by omega
  have hn2 : bF < bS := by omega
  have hn3 : bS < bX := by omega
  have HSZ1 : Hid (bX < w5.heap.size) := by have := HSZ0.out; show _ < _; omega
  have HN : Hid (bF = w.heap.size + 2 ∧ bS = w.heap.size + 3 ∧ bX = w.heap.size + 4) := ⟨by omega, by omega, by omega⟩
  clear hbF hbS hbX HSZ0
  go_loopw [7, 8, 9] (fun v7 _ _ wr => ∃ (i : Nat) (L F : List Int) (S : List (Int × Int)) (V : Int), v7 = .int .i64 i ∧ i ≤ no ∧ 0 ≤ V ∧ V ≤ 12000000 * i ∧ Hid (seatS single R G O = (O.drop i).foldl (seatStep single R G) ⟨L, S, V⟩) ∧
      Hid (L.length = n ∧ S.length = m ∧ F.length = n ∧ (∀ k, k < n → 0 ≤ ix L k ∧ ix L k ≤ ix R k ∧ ix F k = ix R k - ix L k) ∧ ∀ x ∈ O.drop i, gv S x.toNat = 0) ∧ Hid (IntRow wr bF 3 F) ∧ Hid (PairRow wr bS 39 S) ∧
      Hid (Box wr w.heap.size 25 #[.slice ra n c, .slice ga m d, .bool single] ∧ Box wr (w.heap.size + 1) 30 #[.slice none 0 0, .int .i64 0] ∧ Box wr bX 30 #[.slice (some ⟨bS, 0, none⟩) m m, .int .i64 V]) ∧
      bX < wr.heap.size ∧ Hid (Below w.heap.size w wr))
    (fun v7 _ _ _ => no - (intOf v7).toNat)
  case atStart => exact ⟨0, R, List.replicate n 0, List.replicate m (0, 0), 0, rfl, Nat.zero_le _, by omega, by omega, by simp [Hid, seatS, HG.out.1], ⟨HR.out.1, by simp, by simp, fun k hk => by
      have := HRB.out k hk; have e : ix (List.replicate n 0) k = 0 := by simp [ix, List.getD_eq_getElem?_getD, hk]
      omega, fun x _ => by simp only [gv, List.getD_eq_getElem?_getD, List.getElem?_replicate]; split <;> rfl⟩, HIR0, HPR0, ⟨HBP.out, HBR.out, HBX0.out⟩, HSZ1.out, HB0⟩
  case round =>
    clear HIR0 HPR0 HBP HBR HBX0 HSZ1 HB0
    obtain ⟨i, L, F, S, V, rfl, hi, hV0, hV1, HF, HL, HIR, HPR, HBX, hsz, HB⟩ := hrel
    by_cases hlt : i < no
    · obtain ⟨bo, oo, rfl, c0⟩ := (HO.out.below HB.out).2 i hlt
      have hd := drop_ix O i (by rw [HO.out.1]; exact hlt)
      have hx := HX.out (ix O i) (by
        have hlt' : i < O.length := by rw [HO.out.1]; exact hlt
        simp [ix, List.getD_eq_getElem?_getD, hlt'])
      obtain ⟨x, hxx⟩ : ∃ x : Nat, (x : Int) = ix O i := ⟨(ix O i).toNat, by omega⟩
      rw [← hxx] at c0 hd hx
      have hxm : x < m := by omega
      obtain ⟨bg, og, rfl, c1, c2⟩ := (HG.out.below HB.out).2 x hxm
      have hv := HV.out x (by rw [HG.out.1]; exact hxm)
      have HD := Lib.hid hd
      have hgz : Hid (gv S x = 0 ∧ ∀ y ∈ O.drop (i + 1), y.toNat ≠ x ∧ gv S y.toNat = 0) := by
        have h1 := HL.out.2.2.2.2
        have h2 : (O.drop i).Nodup := List.Pairwise.sublist (List.drop_sublist _ _) HND.out
        rw [hd] at h1 h2
        rw [List.nodup_cons] at h2
        refine ⟨by have := h1 x (by simp); simpa using this, fun y hy => ⟨fun e => h2.1 ?_, h1 y (by simp [hy])⟩⟩
        have hy0 := HX.out y (List.mem_of_mem_drop hy)
        have : (x : Int) = y := by omega
        rw [this]; exact hy
      have p1 := HBX.out.1.cell 1
      simp only [List.getElem?_toArray, List.getElem?_cons_succ, List.getElem?_cons_zero] at p1
      obtain ⟨s, hs⟩ : ∃ s, s = gs G x := ⟨_, rfl⟩
      obtain ⟨v, hvv⟩ : ∃ v, v = gv G x := ⟨_, rfl⟩
      rw [← hs] at c1 hv; rw [← hvv] at c2 hv
      have Hs := Lib.hid hs; have Hv := Lib.hid hvv
      clear hs hvv hd hx hxx
      have g0 := cell_lt c0
      have g1 := cell_lt c1
      have g2 := cell_lt p1
      go_upto_region 6 with fail
      go_region
      clear g0 g1 g2 c0 c1 c2 p1
      have hba : Hid (Below wr.heap.size wr (wr.alloc (.cells #[.int .i64 s, .int .i64 v] 37)).drew) := ((Below.refl _ _).alloc (Nat.le_refl _) _).drew
      have HBA : Hid (Below w.heap.size w (wr.alloc (.cells #[.int .i64 s, .int .i64 v] 37)).drew) := HB.out.trans (hba.out.mono HB.out.size)
      have hpb := HBX.out.1.below hba.out
      have p0 := hpb.cell 0
      have p1 := hpb.cell 1
      have p2 := hpb.cell 2
      simp only [List.getElem?_toArray, List.getElem?_cons_succ, List.getElem?_cons_zero] at p0 p1 p2
      have HROOM := Lib.hid (room_any ra (some ⟨bF, 0, none⟩) n c n (.slice (some ⟨bg, og, none⟩) m d) single s R F (wr.alloc (.cells #[.int .i64 s, .int .i64 v] 37)).drew hn (HR.out.below HBA.out)
        (by have := (HIR.out.of_heap (hba.out.block _ HIR.out.lt)).ints; rw [HL.out.2.2.1] at this; exact this) (fun k hk => by have := HRB.out k hk; omega) (fun k hk => by have := HRB.out k hk; have := HL.out.2.2.2.1 k hk; omega) (by omega) (by omega))
      have hrl : Hid (roomFrom single R F s 0 n = firstAt (fun k => fits single (ix L k - s)) 0 n) := roomFrom_first single R F L s n (fun k hk => (HL.out.2.2.2.1 k hk).2.2) n 0 (by omega)
      clear hpb
      go_wp2_with fail
      refine HROOM.out.mono ?_
      rintro e w2 ⟨rfl, hb2⟩
      have hb3 : Hid (Below wr.heap.size wr w2) := hba.out.trans (hb2.mono (by simp))
      have HB2 : Hid (Below w.heap.size w w2) := HB.out.trans (hb3.out.mono HB.out.size)
      have HGB : Hid (Box w2 wr.heap.size 37 #[.int .i64 s, .int .i64 v] ∧ wr.heap.size < w2.heap.size) := ⟨(show Box (wr.alloc (.cells #[.int .i64 s, .int .i64 v] 37)).drew wr.heap.size 37 #[.int .i64 s, .int .i64 v] from Box.new (w := wr) rfl).below hb2, by have := hb2.size; simp at this; omega⟩
      have HIR2 : Hid (IntRow w2 bF 3 F) := HIR.out.of_heap (hb3.out.block _ (by omega))
      have HPR2 : Hid (PairRow w2 bS 39 S) := HPR.out.of_heap (hb3.out.block _ (by omega))
      have HBX2 : Hid (Box w2 w.heap.size 25 #[.slice ra n c, .slice (some ⟨bg, og, none⟩) m d, .bool single] ∧ Box w2 (w.heap.size + 1) 30 #[.slice none 0 0, .int .i64 0] ∧ Box w2 bX 30 #[.slice (some ⟨bS, 0, none⟩) m m, .int .i64 V]) :=
        ⟨HBX.out.1.below hb3.out, HBX.out.2.1.below hb3.out, HBX.out.2.2.below hb3.out⟩
      have HFF : Hid (firstFit single L s R.length = firstAt (fun k => fits single (ix L k - s)) 0 n) := by rw [HR.out.1]; rfl
      obtain ⟨_, _, e, c0⟩ := (HO.out.below HB2.out).2 i hlt
      simp only [Option.some.injEq, Addr.mk.injEq, and_true] at e
      obtain ⟨rfl, rfl⟩ := e
      have hxi : ix O i = (x : Int) := by have := HD.out; rw [drop_ix O i (by rw [HO.out.1]; exact hlt)] at this; simp at this; exact this
      rw [hxi] at c0
      have q0 := HBX2.out.2.2.cell 0
      simp only [List.getElem?_toArray, List.getElem?_cons_zero] at q0
      have q1 := HPR2.out.cell1 x (by rw [HL.out.2.1]; exact hxm)
      have q2 := HPR2.out.cell2 x (by rw [HL.out.2.1]; exact hxm)
      have qf := HPR2.out.free (x * 2)
      have qg := HPR2.out.free (x * 2 + 1)
      rw [hrl.out]
      clear hb2 p0 p1 p2 HROOM hba HBA hxi
      have hr := firstAt_cases (fun k => fits single (ix L k - s)) n 0
      generalize firstAt (fun k => fits single (ix L k - s)) 0 n = r at *
      have HPR3 : Hid (PairRow ((w2.setCell ⟨bS, x * 2, none⟩ (.int .i64 (-1))).setCell ⟨bS, x * 2 + 1, none⟩ (.int .i64 0)).drew bS 39 (S.set x (-1, 0))) := HPR2.out.set12 x (by rw [HL.out.2.1]; exact hxm) (-1) 0
      have hk3 : Hid (∀ g, g ≠ bS → ((w2.setCell ⟨bS, x * 2, none⟩ (.int .i64 (-1))).setCell ⟨bS, x * 2 + 1, none⟩ (.int .i64 0)).drew.heap[g]? = w2.heap[g]?) := fun g hg => (heap_set g hg).trans (heap_set g hg)
      have HB3 : Hid (Below w.heap.size w ((w2.setCell ⟨bS, x * 2, none⟩ (.int .i64 (-1))).setCell ⟨bS, x * 2 + 1, none⟩ (.int .i64 0)).drew) := ((HB2.out.setCell (by simp; omega) _).setCell (by simp; omega) _).drew
      have hs3 : Hid (((w2.setCell ⟨bS, x * 2, none⟩ (.int .i64 (-1))).setCell ⟨bS, x * 2 + 1, none⟩ (.int .i64 0)).drew.heap.size = w2.heap.size) := by simp [Hid, World.setCell]
      go_upto_region 8 with fail
      go_still_tail 8, (by kernel_rfl)
      change wpList _ _ _ _ _ w2.drew
      go_upto_region 9 with fail
      generalize ((w2.setCell ⟨bS, x * 2, none⟩ (.int .i64 (-1))).setCell ⟨bS, x * 2 + 1, none⟩ (.int .i64 0)).drew = w3 at *
      have HIR3 : Hid (IntRow w3 bF 3 F) := HIR2.out.of_heap (hk3.out _ (by omega))
      have HBX3 : Hid (Box w3 w.heap.size 25 #[.slice ra n c, .slice (some ⟨bg, og, none⟩) m d, .bool single] ∧ Box w3 (w.heap.size + 1) 30 #[.slice none 0 0, .int .i64 0] ∧ Box w3 bX 30 #[.slice (some ⟨bS, 0, none⟩) m m, .int .i64 V] ∧ Box w3 wr.heap.size 37 #[.int .i64 s, .int .i64 v]) :=
        ⟨HBX2.out.1.of_heap (hk3.out _ (by omega)), HBX2.out.2.1.of_heap (hk3.out _ (by omega)), HBX2.out.2.2.of_heap (hk3.out _ (by omega)), HGB.out.1.of_heap (hk3.out _ (by omega))⟩
      have hsz3 : wr.heap.size < w3.heap.size := by have := hs3.out; have := HGB.out.2; omega
      clear q0 q1 q2 qf qg c0 HIR2 HPR2 HBX2 HGB HB2 hk3 hs3 hb3 HIR HPR HBX HB hrl
      rcases hr with hr | ⟨j, _, hj, hr, hfit⟩
      · subst hr
        go_wp2
        go_roundw
        case rel => exact ⟨i + 1, L, F, S.set x (-1, 0), V, by go_num, by omega, hV0, by omega, by
            rw [HF.out, HD.out]; simp only [Hid, List.foldl_cons, seatStep]; rw [Int.toNat_natCast, ← Hs.out, HFF.out, hgz.out.1]; simp,
          ⟨HL.out.1, by rw [List.length_set]; exact HL.out.2.1, HL.out.2.2.1, HL.out.2.2.2.1, fun y hy => by
            have := hgz.out.2 y hy
            rw [gv_set _ _ _ _ (by rw [HL.out.2.1]; exact hxm), if_neg (fun e => this.1 e.symm)]; exact this.2⟩,
          HIR3, HPR3, ⟨HBX3.out.1, HBX3.out.2.1, HBX3.out.2.2.1⟩, by omega, HB3⟩
        case measure => simp [intOf]; omega
      · subst hr
        have hjn : j < n := by omega
        go_wp2_with fail
        obtain ⟨_, _, e, c0⟩ := (HO.out.below HB3.out).2 i hlt
        simp only [Option.some.injEq, Addr.mk.injEq, and_true] at e
        obtain ⟨rfl, rfl⟩ := e
        have hxi : ix O i = (x : Int) := by have := HD.out; rw [drop_ix O i (by rw [HO.out.1]; exact hlt)] at this; simp at this; exact this
        rw [hxi] at c0
        have q0 := HBX3.out.2.2.1.cell 0
        simp only [List.getElem?_toArray, List.getElem?_cons_zero] at q0
        have q1 := HPR3.out.cell1 x (by rw [List.length_set, HL.out.2.1]; exact hxm)
        have q2 := HPR3.out.cell2 x (by rw [List.length_set, HL.out.2.1]; exact hxm)
        have qf := HPR3.out.free (x * 2)
        have qg := HPR3.out.free (x * 2 + 1)
        have cF := HIR3.out.cell j (by rw [HL.out.2.2.1]; exact hjn)
        have bF' := HL.out.2.2.2.1 j hjn
        have bR' := HRB.out j hjn
        obtain ⟨a, ha⟩ : ∃ a, a = ix F j := ⟨_, rfl⟩
        obtain ⟨l, hl⟩ : ∃ a, a = ix L j := ⟨_, rfl⟩
        obtain ⟨rr, hrr⟩ : ∃ a, a = ix R j := ⟨_, rfl⟩
        rw [← ha] at cF bF'; rw [← hl, ← hrr] at bF'; rw [← hrr] at bR'
        have Ha := Lib.hid ha; have Hl := Lib.hid hl; have Hrr := Lib.hid hrr
        clear ha hl hrr hxi
        have hfit2 : s ≤ l := by have := hfit; rw [← Hl.out] at this; simp [fits] at this; omega
        have Hab : Hid (a = rr - l) := bF'.2.2
        have ba : 0 ≤ a ∧ a ≤ 4000 := by omega
        have bl : 0 ≤ l ∧ l ≤ rr := ⟨bF'.1, bF'.2.1⟩
        clear hfit bF'
        have HPR4 : Hid (PairRow ((w3.setCell ⟨bS, x * 2, none⟩ (.int .i64 (j : Int))).setCell ⟨bS, x * 2 + 1, none⟩ (.int .i64 a)).drew bS 39 (S.set x ((j : Int), a))) := by
          have := HPR3.out.set12 x (by rw [List.length_set, HL.out.2.1]; exact hxm) j a
          simpa [Hid] using (show PairRow ((w3.setCell ⟨bS, x * 2, none⟩ (.int .i64 (j : Int))).setCell ⟨bS, x * 2 + 1, none⟩ (.int .i64 a)).drew bS 39 _ from this)
        have hk4 : Hid (∀ g, g ≠ bS → ((w3.setCell ⟨bS, x * 2, none⟩ (.int .i64 (j : Int))).setCell ⟨bS, x * 2 + 1, none⟩ (.int .i64 a)).drew.heap[g]? = w3.heap[g]?) := fun g hg => (heap_set g hg).trans (heap_set g hg)
        have HB4 : Hid (Below w.heap.size w ((w3.setCell ⟨bS, x * 2, none⟩ (.int .i64 (j : Int))).setCell ⟨bS, x * 2 + 1, none⟩ (.int .i64 a)).drew) := ((HB3.out.setCell (by simp; omega) _).setCell (by simp; omega) _).drew
        have hs4 : Hid (((w3.setCell ⟨bS, x * 2, none⟩ (.int .i64 (j : Int))).setCell ⟨bS, x * 2 + 1, none⟩ (.int .i64 a)).drew.heap.size = w3.heap.size) := by simp [Hid, World.setCell]
        go_still_tail 13, (by kernel_rfl)
        change wpList _ _ _ _ _ w3.drew
        go_wp2_with fail
        generalize ((w3.setCell ⟨bS, x * 2, none⟩ (.int .i64 (j : Int))).setCell ⟨bS, x * 2 + 1, none⟩ (.int .i64 a)).drew = w4 at *
        have HIR4 : Hid (IntRow w4 bF 3 F) := HIR3.out.of_heap (hk4.out _ (by omega))
        have HBX4 : Hid (Box w4 w.heap.size 25 #[.slice ra n c, .slice (some ⟨bg, og, none⟩) m d, .bool single] ∧ Box w4 (w.heap.size + 1) 30 #[.slice none 0 0, .int .i64 0] ∧ Box w4 bX 30 #[.slice (some ⟨bS, 0, none⟩) m m, .int .i64 V] ∧ Box w4 wr.heap.size 37 #[.int .i64 s, .int .i64 v]) :=
          ⟨HBX3.out.1.of_heap (hk4.out _ (by omega)), HBX3.out.2.1.of_heap (hk4.out _ (by omega)), HBX3.out.2.2.1.of_heap (hk4.out _ (by omega)), HBX3.out.2.2.2.of_heap (hk4.out _ (by omega))⟩
        clear q0 q1 q2 qf qg c0 cF HIR3 HPR3 HBX3 HB3 hk4
        have cF := HIR4.out.cell j (by rw [HL.out.2.2.1]; exact hjn)
        rw [← Ha.out] at cF
        have fF := HIR4.out.free j
        have g0 := HBX4.out.2.2.2.cell 0
        simp only [List.getElem?_toArray, List.getElem?_cons_zero] at g0
        have HIR5 : Hid (IntRow (w4.setCell ⟨bF, j, none⟩ (.int .i64 (a + s))).drew bF 3 (F.set j (a + s))) := IntRow.set (w := w4) HIR4.out j (by rw [HL.out.2.2.1]; exact hjn) (a + s)
        have hk5 : Hid (∀ g', g' ≠ bF → (w4.setCell ⟨bF, j, none⟩ (.int .i64 (a + s))).drew.heap[g']? = w4.heap[g']?) := fun g' hg => heap_set (w := w4) g' hg
        have HB5 : Hid (Below w.heap.size w (w4.setCell ⟨bF, j, none⟩ (.int .i64 (a + s))).drew) := (HB4.out.setCell (by simp; omega) _).drew
        have hs5 : Hid ((w4.setCell ⟨bF, j, none⟩ (.int .i64 (a + s))).drew.heap.size = w4.heap.size) := by simp [Hid, World.setCell]
        have hsv : 0 ≤ s * v ∧ s * v ≤ 12000000 := ⟨Int.mul_nonneg (by omega) (by omega), Int.le_trans (Int.mul_le_mul (show s ≤ 12 by omega) (show v ≤ 1000000 by omega) (by omega) (by omega)) (by omega)⟩
        have HV2 : Hid (0 ≤ V + s * v ∧ V + s * v ≤ 12000000 * ((i + 1 : Nat) : Int)) := ⟨by omega, by omega⟩
        go_still_tail 8, (by kernel_rfl)
        change wpList _ _ _ _ _ w4.drew
        go_upto_region 12 with fail
        generalize (w4.setCell ⟨bF, j, none⟩ (.int .i64 (a + s))).drew = w5b at *
        have HPR5 : Hid (PairRow w5b bS 39 (S.set x ((j : Int), a))) := HPR4.out.of_heap (hk5.out _ (by omega))
        have HBX5 : Hid (Box w5b w.heap.size 25 #[.slice ra n c, .slice (some ⟨bg, og, none⟩) m d, .bool single] ∧ Box w5b (w.heap.size + 1) 30 #[.slice none 0 0, .int .i64 0] ∧ Box w5b bX 30 #[.slice (some ⟨bS, 0, none⟩) m m, .int .i64 V] ∧ Box w5b wr.heap.size 37 #[.int .i64 s, .int .i64 v]) :=
          ⟨HBX4.out.1.of_heap (hk5.out _ (by omega)), HBX4.out.2.1.of_heap (hk5.out _ (by omega)), HBX4.out.2.2.1.of_heap (hk5.out _ (by omega)), HBX4.out.2.2.2.of_heap (hk5.out _ (by omega))⟩
        clear cF fF g0 hk5 HIR4 HPR4 HBX4 HB4
        have k0 := HBX5.out.2.2.1.cell 1
        have k1 := HBX5.out.2.2.2.cell 0
        have k2 := HBX5.out.2.2.2.cell 1
        have kf := HBX5.out.2.2.1.free 1
        simp only [List.getElem?_toArray, List.getElem?_cons_zero, List.getElem?_cons_succ] at k0 k1 k2
        have HXB := Lib.hid (HBX5.out.2.2.1.set 1 (.int .i64 (V + s * v)))
        have HLAST := Lib.hid (fun g' (hg : g' ≠ bX) => heap_set (w := w5b) (b := bX) (k := 1) (v := .int .i64 (V + s * v)) g' hg)
        go_wp2
        go_roundw
        case rel => exact ⟨i + 1, L.set j (l - s), F.set j (a + s), S.set x ((j : Int), a), V + s * v, by go_num, by omega, HV2.out.1, HV2.out.2, by
            rw [HF.out, HD.out]; simp only [Hid, List.foldl_cons, seatStep]; rw [Int.toNat_natCast, ← Hs.out, ← Hv.out, HFF.out, if_pos (by omega), Int.toNat_natCast, ← Hl.out, ← Hrr.out, ← Hab.out],
          ⟨by rw [List.length_set]; exact HL.out.1, by rw [List.length_set]; exact HL.out.2.1, by rw [List.length_set]; exact HL.out.2.2.1, fun k hk => by
            rw [ix_set _ _ _ _ (by rw [HL.out.1]; exact hjn), ix_set _ _ _ _ (by rw [HL.out.2.2.1]; exact hjn)]
            have h1 := Hab.out; have h2 := Hrr.out
            split
            · rename_i e; subst e; rw [← h2]; omega
            · exact HL.out.2.2.2.1 k hk, fun y hy => by
            have := hgz.out.2 y hy
            rw [gv_set _ _ _ _ (by rw [HL.out.2.1]; exact hxm), if_neg (fun e => this.1 e.symm)]; exact this.2⟩,
          HIR5.out.of_heap (HLAST.out _ (by omega)), HPR5.out.of_heap (HLAST.out _ (by omega)),
          ⟨HBX5.out.1.of_heap (HLAST.out _ (by omega)), HBX5.out.2.1.of_heap (HLAST.out _ (by omega)), HXB.out⟩,
          by have h1 := hs5.out; have h2 := hs4.out; simp [World.setCell]; omega, HB5.out.setCell (by simp; omega) _⟩
        case measure => simp [intOf]; omega
    · have hdrop : O.drop i = [] := List.drop_eq_nil_of_le (by rw [HO.out.1]; omega)
      have HFIN : Hid (seatS single R G O = ⟨L, S, V⟩) := by rw [HF.out, hdrop]; rfl
      have q0 := HBX.out.2.2.cell 0
      have q1 := HBX.out.2.2.cell 1
      have q2 := HBX.out.2.1.cell 0
      have q3 := HBX.out.2.1.cell 1
      have qf := HBX.out.2.1.free 0
      have qg := HBX.out.2.1.free 1
      simp only [List.getElem?_toArray, List.getElem?_cons_zero, List.getElem?_cons_succ] at q0 q1 q2 q3
      have HRB2 := Lib.hid ((HBX.out.2.1.set 0 (.slice (some ⟨bS, 0, none⟩) m m)).set 1 (.int .i64 V))
      have HFR : Hid (∀ g', g' ≠ w.heap.size + 1 → ((wr.setCell ⟨w.heap.size + 1, 0, none⟩ (.slice (some ⟨bS, 0, none⟩) m m)).setCell ⟨w.heap.size + 1, 1, none⟩ (.int .i64 V)).heap[g']? = wr.heap[g']?) :=
        fun g' h => (heap_set g' h).trans (heap_set g' h)
      have r0 := HRB2.out.cell 0
      have r1 := HRB2.out.cell 1
      clear hdrop
      go_wp2
      refine bodyPost_ret (v := .agg #[.slice (some ⟨bS, 0, none⟩) m m, .int .i64 V]) (by simp [results, Try.results39, go_sem, r0, r1]) rfl ⟨some ⟨bS, 0, none⟩, m, by rw [HFIN.out], (HB.out.setCell (by simp) _).setCell (by simp) _, ?_, fun q hq => by simp at hq; subst hq; show w.heap.size ≤ bS; omega⟩
      rw [HFIN.out]
      have hpr := HPR.out.of_heap (HFR.out bS (by omega))
      have := hpr.pairs
      rw [HL.out.2.1] at this
      exact this
end Go.Proofs.Ytaomlhhlefpdeaa
