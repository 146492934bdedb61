/- foyerref24.sorted. -/
import Derived.Test.YtaomlhhlefpdeaaQFitBound21

namespace Go.Proofs.Ytaomlhhlefpdeaa
open Go.RowKit

structure MergeInv (G : List (Int × Int)) (A1 A2 B1 B2 Out : List Int) : Prop where
  perm : Out.Perm (A1 ++ B1)
  sorted : Out.Pairwise (byValue G)
  ahead : ∀ u ∈ Out, ∀ v ∈ A2 ++ B2, byValue G u v

theorem snoc_sorted {prec : Int → Int → Prop} {Out : List Int} {x : Int} (h : Out.Pairwise prec) (hx : ∀ u ∈ Out, prec u x) : (Out ++ [x]).Pairwise prec := by
  rw [List.pairwise_append]
  exact ⟨h, by simp, fun u hu v hv => by rw [List.mem_singleton.1 hv]; exact hx u hu⟩

theorem MergeInv.takeA {G : List (Int × Int)} {A1 A3 B1 B2 Out : List Int} {x : Int} (h : MergeInv G A1 (x :: A3) B1 B2 Out) (hA : (x :: A3).Pairwise (byValue G)) (hB : ∀ v ∈ B2, byValue G x v) : MergeInv G (A1 ++ [x]) A3 B1 B2 (Out ++ [x]) := by
  refine ⟨?_, snoc_sorted h.sorted (fun u hu => h.ahead u hu x (by simp)), fun u hu v hv => ?_⟩
  · have h1 := h.perm.append_right [x]
    refine h1.trans ?_
    simp only [List.append_assoc]
    exact List.Perm.append_left _ List.perm_append_comm
  · rcases List.mem_append.1 hu with hu | hu
    · refine h.ahead u hu v ?_
      rcases List.mem_append.1 hv with hv | hv <;> simp [hv]
    · rw [List.mem_singleton.1 hu]
      rcases List.mem_append.1 hv with hv | hv
      · exact (List.pairwise_cons.1 hA).1 v hv
      · exact hB v hv

theorem MergeInv.takeB {G : List (Int × Int)} {A1 A2 B1 B3 Out : List Int} {y : Int} (h : MergeInv G A1 A2 B1 (y :: B3) Out) (hB : (y :: B3).Pairwise (byValue G)) (hA : ∀ v ∈ A2, byValue G y v) : MergeInv G A1 A2 (B1 ++ [y]) B3 (Out ++ [y]) := by
  refine ⟨?_, snoc_sorted h.sorted (fun u hu => h.ahead u hu y (by simp)), fun u hu v hv => ?_⟩
  · have h1 := h.perm.append_right [y]
    simpa using h1
  · rcases List.mem_append.1 hu with hu | hu
    · refine h.ahead u hu v ?_
      rcases List.mem_append.1 hv with hv | hv <;> simp [hv]
    · rw [List.mem_singleton.1 hu]
      rcases List.mem_append.1 hv with hv | hv
      · exact hA v hv
      · exact (List.pairwise_cons.1 hB).1 v hv

theorem head_first {G : List (Int × Int)} {x y : Int} {B : List Int} (h : byValue G x y) (hB : (y :: B).Pairwise (byValue G)) : ∀ v ∈ y :: B, byValue G x v := by
  intro v hv
  rcases List.mem_cons.1 hv with rfl | hv
  · exact h
  · exact byValue_trans G _ _ _ h ((List.pairwise_cons.1 hB).1 v hv)

theorem OwnInts.of_row' {w : World} {B n : Nat} {v : Value} {L : List Int} (h : w.ownsRow B 3 1 v n (L.map (Value.int .i64))) : ∃ la c, v = .slice la n c ∧ n ≤ c ∧ OwnInts w B la n L := by
  obtain ⟨la, c, e, ho⟩ := OwnInts.of_row h
  refine ⟨la, c, e, ?_, ho⟩
  subst e
  rcases h.2 with ⟨e, h0⟩ | ⟨g, cap, cur, e, _, _, h1, _⟩
  · omega
  · simp at e; omega

/-- What sorted leaves. -/
def SortedPost (G : List (Int × Int)) (n : Nat) (L : List Int) (w : World) (e : Ending) (w' : World) : Prop :=
  ∃ oa oc O, e = .returned (.slice oa n oc) ∧ n ≤ oc ∧ Below w.heap.size w w' ∧ Ints w' oa n O ∧ O.Perm L ∧ O.Pairwise (byValue G)

set_option maxRecDepth 10000 in
set_option maxHeartbeats 3200000 in
theorem sorted_step (ga : Option Addr) (m d : Nat) (G : List (Int × Int)) (hv : ValuesOk G) (N : Nat)
    (ih : ∀ (la : Option Addr) (n c : Nat) (L : List Int) (w : World), n < N → n ≤ 4000 → n ≤ c → Ints w la n L → Pairs w ga m G → L.Pairwise (· < ·) → (∀ x ∈ L, 0 ≤ x ∧ x < m) →
      Calls Try.prog 40 #[.slice la n c, .slice ga m d] w (SortedPost G n L w))
    (la : Option Addr) (n c : Nat) (L : List Int) (w : World) (hnN : n ≤ N) (hn : n ≤ 4000) (hc : n ≤ c) (hL : Ints w la n L) (hG : Pairs w ga m G) (hs : L.Pairwise (· < ·)) (hr : ∀ x ∈ L, 0 ≤ x ∧ x < m) :
    Calls Try.prog 40 #[.slice la n c, .slice ga m d] w (SortedPost G n L w) := by
  by_cases h2 : n < 2
  · have FIN : Hid (SortedPost G n L w (.returned (.slice la n c)) w) := ⟨la, c, L, rfl, hc, Below.refl _ _, hL, List.Perm.refl _, by
      have h1 := hL.1
      match L, h1 with
      | [], _ => simp
      | [x], _ => simp
      | x :: y :: L, h1 => simp at h1; omega⟩
    clear ih hL hG hs hr
    go_enter Try.func40, Try.ntmps40
    go_wp2
    go_ret
    exact FIN.out
  · obtain ⟨i0, hi, hz0, hz1, hz2⟩ := info_parts Try_infoInt
    obtain ⟨b, o, rfl, _⟩ := hL.2 0 (by omega)
    obtain ⟨h, hh⟩ : ∃ h : Nat, (n : Int) / 2 = h := ⟨n / 2, by omega⟩
    have hb1 : 1 ≤ h ∧ h < n ∧ h ≤ c := by omega
    obtain ⟨nb, hnb⟩ : ∃ nb, nb = n - h := ⟨_, rfl⟩
    have hnb' : n - h = nb := hnb.symm
    have hb2 : 1 ≤ nb ∧ nb < n ∧ h + nb = n ∧ nb ≤ c - h := by omega
    have hLA : L = L.take h ++ L.drop h := (List.take_append_drop h L).symm
    have hlA : (L.take h).length = h := by rw [List.length_take, hL.1]; omega
    have hlB : (L.drop h).length = nb := by rw [List.length_drop, hL.1]; omega
    have hA : Ints w (some ⟨b, o, none⟩) h (L.take h) := ⟨hlA, fun k hk => by
      obtain ⟨b', o', e, hcell⟩ := hL.2 k (by omega)
      refine ⟨b', o', e, ?_⟩
      rw [hcell]
      simp [ix, List.getD_eq_getElem?_getD, hk]⟩
    have hB : Ints w (some ⟨b, o + h, none⟩) nb (L.drop h) := ⟨hlB, fun k hk => by
      obtain ⟨b', o', e, hcell⟩ := hL.2 (h + k) (by omega)
      simp at e
      obtain ⟨rfl, rfl⟩ := e
      refine ⟨b, o + h, rfl, ?_⟩
      rw [Nat.add_assoc, hcell]
      simp [ix, List.getD_eq_getElem?_getD]⟩
    rw [hLA, List.pairwise_append] at hs
    generalize L.take h = A0 at *
    generalize L.drop h = B0 at *
    have HLA := Lib.hid hLA; have HS := Lib.hid hs
    have HG := Lib.hid hG; have HR := Lib.hid hr; have HV := Lib.hid hv
    have hra : Hid ((∀ x ∈ A0, 0 ≤ x ∧ x < m) ∧ ∀ x ∈ B0, 0 ≤ x ∧ x < m) := ⟨fun x hx => hr x (by rw [hLA]; simp [hx]), fun x hx => hr x (by rw [hLA]; simp [hx])⟩
    have IH1 := Lib.hid (ih (some ⟨b, o, none⟩) h c A0 w (by omega) (by omega) (by omega) hA hG HS.out.1 hra.out.1)
    have IH2 := Lib.hid (fun w' (hb : Below w.heap.size w w') => ih (some ⟨b, o + h, none⟩) nb (c - h) B0 w' (by omega) (by omega) (by omega) (hB.below hb) (hG.below hb) HS.out.2.1 hra.out.2)
    clear ih hL hG hs hr hLA hA hB hlA hlB hv hnb
    have hd2 : decide ((n : Int) < 2) = false := by simp; omega
    go_enter Try.func40, Try.ntmps40
    go_wp2_with fail
    refine IH1.out.mono ?_
    rintro e w1 ⟨aa, ac, A, rfl, hac, hb3, hAi, hAp, hAs⟩
    have HAP := Lib.hid hAp; have HAS := Lib.hid hAs; have HAI := Lib.hid hAi; have HB3 := Lib.hid hb3
    clear hAp hAs hAi hb3
    go_wp2_with fail
    refine (IH2.out w1 HB3.out).mono ?_
    rintro e w2 ⟨ba, bc, Bl, rfl, hbc, hb4, hBi, hBp, hBs⟩
    have HBP := Lib.hid hBp; have HBS := Lib.hid hBs; have HBI := Lib.hid hBi
    have HAI2 : Hid (Ints w2 aa h A) := HAI.out.below hb4
    have HB4 : Hid (Below w.heap.size w w2) := HB3.out.trans (hb4.mono HB3.out.size)
    have HRA : Hid ((∀ x ∈ A, 0 ≤ x ∧ x < m) ∧ (∀ x ∈ Bl, 0 ≤ x ∧ x < m) ∧ ∀ x ∈ A, ∀ y ∈ Bl, x < y) :=
      ⟨fun x hx => hra.out.1 x (HAP.out.mem_iff.1 hx), fun x hx => hra.out.2 x (HBP.out.mem_iff.1 hx), fun x hx y hy => HS.out.2.2 x (HAP.out.mem_iff.1 hx) y (HBP.out.mem_iff.1 hy)⟩
    clear hBp hBs hBi hb4 HAI IH1 IH2 HB3
    go_wp2
    go_loopw [7, 8, 9] (fun v7 v8 v9 wr => ∃ (A1 A2 B1 B2 Out : List Int), v8 = .int .i64 A1.length ∧ v9 = .int .i64 B1.length ∧ Hid (A = A1 ++ A2) ∧ Hid (Bl = B1 ++ B2) ∧ Hid (MergeInv G A1 A2 B1 B2 Out) ∧ Hid (A1.length + A2.length = h ∧ B1.length + B2.length = nb) ∧
        A1.length ≤ h ∧ B1.length ≤ nb ∧ wr.ownsRow w2.heap.size 3 1 v7 (A1.length + B1.length) (Out.map (Value.int .i64)) ∧ Below w2.heap.size w2 wr)
      (fun _ v8 v9 _ => n - (intOf v8).toNat - (intOf v9).toNat)
    case atStart => exact ⟨[], A, [], Bl, [], rfl, rfl, rfl, rfl, ⟨List.Perm.refl _, by simp, by simp⟩, ⟨by simp [HAI2.out.1], by simp [HBI.out.1]⟩, by simp, by simp, World.ownsRow_nil _ _ _ _, Below.refl _ _⟩
    case round =>
      obtain ⟨A1, A2, B1, B2, Out, rfl, rfl, H1, H2, HMI, HLN, hla, hlb, hown, hb⟩ := hrel
      have HBW : Hid (Below w.heap.size w wr) := HB4.out.trans (hb.mono HB4.out.size)
      have HCA : Hid (∀ x A3, A2 = x :: A3 → A1.length < h ∧ ∃ q p, aa = some ⟨q, p, none⟩ ∧ wr.cell? ⟨q, p + A1.length, none⟩ = some (.int .i64 x)) := fun x A3 e => by
        have h1 := HLN.out.1; rw [e] at h1; simp at h1
        obtain ⟨q, p, e1, e2⟩ := (HAI2.out.below hb).2 A1.length (by omega)
        refine ⟨by omega, q, p, e1, ?_⟩
        rw [e2, H1.out, e, ix_mid]
      have HCB : Hid (∀ x B3, B2 = x :: B3 → B1.length < nb ∧ ∃ q p, ba = some ⟨q, p, none⟩ ∧ wr.cell? ⟨q, p + B1.length, none⟩ = some (.int .i64 x)) := fun x B3 e => by
        have h1 := HLN.out.2; rw [e] at h1; simp at h1
        obtain ⟨q, p, e1, e2⟩ := (HBI.out.below hb).2 B1.length (by omega)
        refine ⟨by omega, q, p, e1, ?_⟩
        rw [e2, H2.out, e, ix_mid]
      match A2, B2 with
      | [], [] =>
        have e1 : A1.length + B1.length = n := by have := HLN.out; simp at this; omega
        rw [e1] at hown
        obtain ⟨oa, oc, rfl, hoc, ho⟩ := OwnInts.of_row' hown
        have FIN : Hid (SortedPost G n L w (.returned (.slice oa n oc)) wr) := ⟨oa, oc, Out, rfl, hoc, HBW.out, ho.ints, by
          have h1 := HMI.out.perm
          have h3 := H1.out; have h4 := H2.out
          simp at h3 h4
          rw [HLA.out]
          refine h1.trans ?_
          rw [← h3, ← h4]
          exact HAP.out.append HBP.out, HMI.out.sorted⟩
        have f1 : ¬ A1.length < h := by have := HLN.out.1; simp at this; omega
        have f2 : ¬ B1.length < nb := by have := HLN.out.2; simp at this; omega
        clear hown ho hb
        go_wp2
        go_ret
        exact FIN.out
      | x :: A3, [] =>
        obtain ⟨f1, q, p, rfl, cx⟩ := HCA.out x A3 rfl
        have f2 : ¬ B1.length < nb := by have := HLN.out.2; simp at this; omega
        have f3 : ((B1.length : Int) == (nb : Int)) = true := by rw [beq_iff_eq]; omega
        have FIN : Hid (MergeInv G (A1 ++ [x]) A3 B1 [] (Out ++ [x])) := HMI.out.takeA (by have := HAS.out; rw [H1.out, List.pairwise_append] at this; exact this.2.1) (by simp)
        clear HCA HCB
        go_wp2_with fail
        go_quiet (fail)
        go_wp2_with (at_builtin; refine wpList_append_own _ rfl _ _ 22 rfl w2.heap.size 3 i0 (.int .i64 0) 1 8 Try.underlying22 hi hz0 hz1 hz2 rfl (by decide) _ _ _ rfl (World.ownsRow.alloc (w := wr.drewN nq) hown _) ⟨(wr.drewN nq).heap.size, 0, none⟩ 1 1 [.int .i64 (x : Int)] rfl rfl ?_ ?_ ?_ ?_ ?_ ?_)
        rotate_right
        intro v' w3 hown' hgrow _
        have hb5 : Below w2.heap.size w2 w3 := ((below_drewN hb nq).alloc hb.size _).grown hgrow (by have := hb.size; simp; omega) (fun q hq => (hown.lt q hq).1)
        clear hown hgrow hb
        go_wp2
        go_roundw
        case rel => exact ⟨A1 ++ [x], A3, B1, [], Out ++ [x], by simp, rfl, by show _ = _; rw [H1.out]; simp, H2, FIN, ⟨by have := HLN.out.1; simp at this ⊢; omega, HLN.out.2⟩, by simp; omega, hlb, by simpa [Nat.add_assoc, Nat.add_comm, Nat.add_left_comm] using hown', hb5⟩
        case measure => simp [intOf]; omega
        · intro j u hj
          match j, hj with
          | 0, hj => simp at hj; subst hj; simp only [Addr.add, if_true]; exact World.cell?_alloc_at (w := wr.drewN nq) _ _ _ 0 rfl
        · intro u hu; simp at hu; subst hu; rfl
        · unfold maxLen; omega
        · omega
        · have := hb.size; simp; omega
      | [], y :: B3 =>
        obtain ⟨f2, q, p, rfl, cx⟩ := HCB.out y B3 rfl
        have f1 : ¬ A1.length < h := by have := HLN.out.1; simp at this; omega
        have f3 : ((B1.length : Int) == (nb : Int)) = false := by rw [beq_eq_false_iff_ne]; omega
        have FIN : Hid (MergeInv G A1 [] (B1 ++ [y]) B3 (Out ++ [y])) := HMI.out.takeB (by have := HBS.out; rw [H2.out, List.pairwise_append] at this; exact this.2.1) (by simp)
        clear HCA HCB
        go_wp2_with fail
        go_quiet (fail)
        go_wp2_with (at_builtin; refine wpList_append_own _ rfl _ _ 22 rfl w2.heap.size 3 i0 (.int .i64 0) 1 8 Try.underlying22 hi hz0 hz1 hz2 rfl (by decide) _ _ _ rfl (World.ownsRow.alloc (w := wr.drewN nq) hown _) ⟨(wr.drewN nq).heap.size, 0, none⟩ 1 1 [.int .i64 (y : Int)] rfl rfl ?_ ?_ ?_ ?_ ?_ ?_)
        rotate_right
        intro v' w3 hown' hgrow _
        have hb5 : Below w2.heap.size w2 w3 := ((below_drewN hb nq).alloc hb.size _).grown hgrow (by have := hb.size; simp; omega) (fun q hq => (hown.lt q hq).1)
        clear hown hgrow hb
        go_wp2
        go_roundw
        case rel => exact ⟨A1, [], B1 ++ [y], B3, Out ++ [y], rfl, by simp, H1, by show _ = _; rw [H2.out]; simp, FIN, ⟨HLN.out.1, by have := HLN.out.2; simp at this ⊢; omega⟩, hla, by simp; omega, by simpa [Nat.add_assoc] using hown', hb5⟩
        case measure => simp [intOf]; omega
        · intro j u hj
          match j, hj with
          | 0, hj => simp at hj; subst hj; simp only [Addr.add, if_true]; exact World.cell?_alloc_at (w := wr.drewN nq) _ _ _ 0 rfl
        · intro u hu; simp at hu; subst hu; rfl
        · unfold maxLen; omega
        · omega
        · have := hb.size; simp; omega
      | x :: A3, y :: B3 =>
        obtain ⟨f1, q, p, rfl, cx⟩ := HCA.out x A3 rfl
        obtain ⟨f2, q', p', rfl, cy⟩ := HCB.out y B3 rfl
        have f3 : ((B1.length : Int) == (nb : Int)) = false := by rw [beq_eq_false_iff_ne]; omega
        have hx := HRA.out.1 x (by rw [H1.out]; simp)
        have hy := HRA.out.2.1 y (by rw [H2.out]; simp)
        have hxy := HRA.out.2.2 x (by rw [H1.out]; simp) y (by rw [H2.out]; simp)
        obtain ⟨xn, rfl⟩ : ∃ k : Nat, x = k := ⟨x.toNat, by omega⟩
        obtain ⟨yn, rfl⟩ : ∃ k : Nat, y = k := ⟨y.toNat, by omega⟩
        have hxm : xn < m := by omega
        have hym : yn < m := by omega
        obtain ⟨bg, og, rfl, _, c1⟩ := (HG.out.below HBW.out).2 xn hxm
        obtain ⟨bg', og', e, _, c2⟩ := (HG.out.below HBW.out).2 yn hym
        obtain ⟨rfl, rfl⟩ : bg = bg' ∧ og = og' := by simpa using e
        have hpA : ((xn : Int) :: A3).Pairwise (byValue G) := by have := HAS.out; rw [H1.out, List.pairwise_append] at this; exact this.2.1
        have hpB : ((yn : Int) :: B3).Pairwise (byValue G) := by have := HBS.out; rw [H2.out, List.pairwise_append] at this; exact this.2.1
        have HPA := Lib.hid hpA; have HPB := Lib.hid hpB
        clear HCA HCB e hpA hpB hx hy
        by_cases hge : gv G yn ≤ gv G xn
        · have FIN : Hid (MergeInv G (A1 ++ [(xn : Int)]) A3 B1 ((yn : Int) :: B3) (Out ++ [(xn : Int)])) := HMI.out.takeA HPA.out (head_first (by unfold byValue; simp; omega) HPB.out)
          go_wp2_with fail
          go_quiet (fail)
          go_wp2_with (at_builtin; refine wpList_append_own _ rfl _ _ 22 rfl w2.heap.size 3 i0 (.int .i64 0) 1 8 Try.underlying22 hi hz0 hz1 hz2 rfl (by decide) _ _ _ rfl (World.ownsRow.alloc (w := wr.drewN nq) hown _) ⟨(wr.drewN nq).heap.size, 0, none⟩ 1 1 [.int .i64 (xn : Int)] rfl rfl ?_ ?_ ?_ ?_ ?_ ?_)
          rotate_right
          intro v' w3 hown' hgrow _
          have hb5 : Below w2.heap.size w2 w3 := ((below_drewN hb nq).alloc hb.size _).grown hgrow (by have := hb.size; simp; omega) (fun q hq => (hown.lt q hq).1)
          clear hown hgrow hb
          go_wp2
          go_roundw
          case rel => exact ⟨A1 ++ [(xn : Int)], A3, B1, (yn : Int) :: B3, Out ++ [(xn : Int)], by simp, rfl, by show _ = _; rw [H1.out]; simp, H2, FIN, ⟨by have := HLN.out.1; simp at this ⊢; omega, HLN.out.2⟩, by simp; omega, hlb, by simpa [Nat.add_assoc, Nat.add_comm, Nat.add_left_comm] using hown', hb5⟩
          case measure => simp [intOf]; omega
          · intro j u hj
            match j, hj with
            | 0, hj => simp at hj; subst hj; simp only [Addr.add, if_true]; exact World.cell?_alloc_at (w := wr.drewN nq) _ _ _ 0 rfl
          · intro u hu; simp at hu; subst hu; rfl
          · unfold maxLen; omega
          · omega
          · have := hb.size; simp; omega
        · have FIN : Hid (MergeInv G A1 ((xn : Int) :: A3) (B1 ++ [(yn : Int)]) B3 (Out ++ [(yn : Int)])) := HMI.out.takeB HPB.out (head_first (by unfold byValue; simp; omega) HPA.out)
          go_wp2_with fail
          go_quiet (fail)
          go_wp2_with (at_builtin; refine wpList_append_own _ rfl _ _ 22 rfl w2.heap.size 3 i0 (.int .i64 0) 1 8 Try.underlying22 hi hz0 hz1 hz2 rfl (by decide) _ _ _ rfl (World.ownsRow.alloc (w := wr.drewN nq) hown _) ⟨(wr.drewN nq).heap.size, 0, none⟩ 1 1 [.int .i64 (yn : Int)] rfl rfl ?_ ?_ ?_ ?_ ?_ ?_)
          rotate_right
          intro v' w3 hown' hgrow _
          have hb5 : Below w2.heap.size w2 w3 := ((below_drewN hb nq).alloc hb.size _).grown hgrow (by have := hb.size; simp; omega) (fun q hq => (hown.lt q hq).1)
          clear hown hgrow hb
          go_wp2
          go_roundw
          case rel => exact ⟨A1, (xn : Int) :: A3, B1 ++ [(yn : Int)], B3, Out ++ [(yn : Int)], rfl, by simp, H1, by show _ = _; rw [H2.out]; simp, FIN, ⟨HLN.out.1, by have := HLN.out.2; simp at this ⊢; omega⟩, hla, by simp; omega, by simpa [Nat.add_assoc] using hown', hb5⟩
          case measure => simp [intOf]; omega
          · intro j u hj
            match j, hj with
            | 0, hj => simp at hj; subst hj; simp only [Addr.add, if_true]; exact World.cell?_alloc_at (w := wr.drewN nq) _ _ _ 0 rfl
          · intro u hu; simp at hu; subst hu; rfl
          · unfold maxLen; omega
          · omega
          · have := hb.size; simp; omega
end Go.Proofs.Ytaomlhhlefpdeaa
