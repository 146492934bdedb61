/- symMergeCmpFunc at []int: a range of one element on the right. -/
import Derived.Test.YtgpmhaeiccljaaaDoorSort3
namespace Go.Proofs.YtgpmhaeiccljaaaDoor
open Go.RowKit

set_option maxRecDepth 20000 in
set_option maxHeartbeats 2000000 in
theorem symMerge_right (f : Nat) (cap : Array Value) (cf : Int → Int → Int) (dom : Int → Prop) (prec : Int → Int → Prop) (g T c l : Nat) (a m b : Int) (P A S : List Int) (x : Int) (w : World)
    (hcf : ∀ (args : Array Value) (w : World), (callFunc f args).run Tryd.prog w = .ok (.enter f args) w)
    (hcmp : CmpAt f cap cf dom g w) (htr : ∀ x y z, prec x y → prec y z → prec x z)
    (hl : l = (P ++ (A ++ x :: S)).length) (hD : l ≤ 4000) (hR : IntRow w g T (P ++ (A ++ x :: S))) (ha : a = P.length) (hm : m = P.length + A.length) (hb : b = P.length + A.length + 1) (hA : 1 < A.length)
    (hdom : ∀ x ∈ A, dom x) (hdx : dom x) (hs : A.Pairwise prec) (hok : ∀ u ∈ A, Ok cf prec u x) :
    Calls Tryd.prog 69 #[.slice (some ⟨g, 0, none⟩) l c, .int .i64 a, .int .i64 m, .int .i64 b, .func (.func f) #[] cap] w
      fun e w' => e = .returned (.tuple #[]) ∧ w.grownBy w' (some g) ∧ ∃ M, IntRow w' g T (P ++ (M ++ S)) ∧ M.Perm (A ++ [x]) ∧ M.Pairwise prec := by
  have hl' : l = P.length + (A.length + (S.length + 1)) := by simp at hl; omega
  obtain ⟨a', rfl⟩ : ∃ a' : Nat, a = a' := ⟨_, ha⟩
  obtain ⟨m', rfl⟩ : ∃ a' : Nat, m = a' := ⟨P.length + A.length, by omega⟩
  obtain ⟨b', rfl⟩ : ∃ a' : Nat, b = a' := ⟨P.length + A.length + 1, by omega⟩
  have b1 : a' ≤ 4000 := by omega
  have b2 : a' < m' ∧ m' < b' ∧ b' ≤ 4000 := by omega
  have t0 : ((m' : Int) - a' == 1) = false := by rw [beq_eq_false_iff_ne]; omega
  have t1 : ((b' : Int) - m' == 1) = true := by rw [beq_iff_eq]; omega
  have HA : Hid (a' = P.length) := by show _ = _; omega
  have HM : Hid (m' = P.length + A.length) := by show _ = _; omega
  have HB : Hid (b' = P.length + A.length + 1) := by show _ = _; omega
  have HL := Lib.hid hl'; have HO := Lib.hid hok; have HT := Lib.hid htr; have HDM := Lib.hid hdom; have HS := Lib.hid hs
  have HC := Lib.hid hcmp; have HDX := Lib.hid hdx
  clear ha hm hb hl hl' hok htr hdom hcmp hs hdx
  have bl : b' ≤ l := by have := HL.out; have := HB.out; omega
  go_enter Tryd.func69, Tryd.ntmps69
  go_wp2
  go_loopw [14, 15, 16] (fun vi vj _ wr => ∃ (i j : Nat) (Y M Z : List Int), vi = .int .i64 i ∧ vj = .int .i64 j ∧ a' ≤ i ∧ i ≤ j ∧ j ≤ m' ∧ Hid (A = Y ++ (M ++ Z)) ∧ Hid (i = a' + Y.length) ∧ Hid (j = i + M.length) ∧
      Hid ((∀ y ∈ Y, prec y x) ∧ ∀ z ∈ Z, prec x z) ∧ w.grownBy wr (some g) ∧ IntRow wr g T (P ++ (A ++ x :: S)))
    (fun vi vj _ _ => (intOf vj - intOf vi).toNat)
  case atStart => exact ⟨a', m', [], A, [], rfl, rfl, Nat.le_refl _, by omega, Nat.le_refl _, by simp [Hid], by simp [Hid], by have := HM.out; have := HA.out; show _ = _; omega, by simp [Hid], grown_refl _ _, hR⟩
  case round =>
    clear hR
    obtain ⟨i, j, Y, M, Z, rfl, rfl, hmi, hij, hjb, H1, H2, H3, H4, hg, hr⟩ := hrel
    by_cases hlt : i < j
    · have b3 : i ≤ 4000 := by omega
      have b4 : j ≤ 4000 := by omega
      obtain ⟨h, hh⟩ : ∃ h : Nat, ((i : Int) + (j : Int)) / 2 = h := ⟨(i + j) / 2, by omega⟩
      have b5 : i ≤ h ∧ h < j := by omega
      have b6 : h < l := by omega
      have b7 : m' < l := by omega
      obtain ⟨M1, v, M2, hM, hM1⟩ := cut_at M (h - i) (by have := H3.out; omega)
      have hB1 : A = (Y ++ M1) ++ v :: (M2 ++ Z) := by rw [H1.out, hM]; simp
      have c2 := hr.cell m' (by have := HM.out; simp; omega)
      have e2 := ix_at P A S x m' HM.out
      have hr1 := hr
      rw [e2] at c2
      rw [hB1] at hr1
      have c1 := hr1.cell h (by have := H2.out; have := HA.out; simp; omega)
      have e1 : ix (P ++ (((Y ++ M1) ++ v :: (M2 ++ Z)) ++ x :: S)) h = v := by
        have := ix_at P (Y ++ M1) (M2 ++ Z ++ x :: S) v h (by have := H2.out; have := HA.out; simp; omega)
        simpa using this
      rw [e1] at c1
      have hv : v ∈ A := by rw [hB1]; simp
      have HC2 : Hid (∀ n, Calls Tryd.prog f (#[.int .i64 x, .int .i64 v] ++ cap) (wr.drewN n) fun e w' => e = .returned (.int .i64 (cf x v)) ∧ ∃ q, w' = (wr.drewN n).drewN q) :=
        fun n => HC.out x v _ HDX.out (HDM.out v hv) (grown_trans hg (grown_drew _ _ _))
      have HV := Lib.hid (HO.out v hv)
      have hs1 := HS.out
      rw [hB1] at hs1
      have HS1 := Lib.hid hs1; have HMM := Lib.hid hM; have HM1 := Lib.hid hM1; have HR := Lib.hid hr
      clear hr1 e1 e2 hB1 hs1 hM hM1 hr hv
      by_cases hlv : cf x v < 0
      · have t2 : decide (cf x v < 0) = true := decide_eq_true hlv
        have F : Hid (∀ z ∈ v :: M2 ++ Z, prec x z) := by
          intro z hz
          have h1 := HS1.out
          rw [List.pairwise_append] at h1
          rcases List.mem_cons.1 (by simpa using hz : z ∈ v :: (M2 ++ Z)) with rfl | hz
          · exact HV.out.1 hlv
          · exact HT.out x v z (HV.out.1 hlv) ((List.pairwise_cons.1 h1.2.1).1 z hz)
        go_wp2_with fail
        go_quiet (exact Calls.quiet_of (HC2.out _))
        go_wp2
        go_roundw
        case rel => exact ⟨i, h, Y, M1, v :: M2 ++ Z, rfl, rfl, by omega, by omega, by omega, by show _ = _; rw [H1.out, HMM.out]; simp, H2.out, by have := HM1.out; show _ = _; omega, ⟨H4.out.1, F.out⟩, grown_trans hg (grown_drew _ _ _), HR.out.drewN _⟩
        case measure => simp [intOf]; omega
      · have t2 : decide (cf x v < 0) = false := decide_eq_false hlv
        have F : Hid (∀ y ∈ (Y ++ M1) ++ [v], prec y x) := last_sorted HT.out (Y ++ M1) v x [] (by have := HS1.out; rw [List.pairwise_append] at this ⊢; exact ⟨by
            rw [List.pairwise_append]; exact ⟨this.1, by simp, fun p hp q hq => this.2.2 p hp q (by simp at hq; simp [hq])⟩, by simp, by simp⟩) (HV.out.2 hlv)
        go_wp2_with fail
        go_quiet (exact Calls.quiet_of (HC2.out _))
        go_wp2
        go_roundw
        case rel => exact ⟨h + 1, j, (Y ++ M1) ++ [v], M2, Z, rfl, rfl, by omega, by omega, hjb, by show _ = _; rw [H1.out, HMM.out]; simp, by have := HM1.out; have := H2.out; simp [Hid]; omega, by have h1 := H3.out; rw [HMM.out] at h1; simp at h1; have := HM1.out; show _ = _; omega, ⟨F.out, H4.out.2⟩, grown_trans hg (grown_drew _ _ _), HR.out.drewN _⟩
        case measure => simp [intOf]; omega
    · have hM : M = [] := by have := H3.out; exact List.length_eq_zero_iff.1 (by omega)
      have hBB : A = Y ++ Z := by rw [H1.out, hM]; simp
      have HBB := Lib.hid hBB
      have FIN : Hid ((Y ++ x :: Z).Perm (A ++ [x]) ∧ (Y ++ x :: Z).Pairwise prec) := by
        rw [hBB]; exact ⟨List.perm_middle.trans (List.perm_append_singleton x (Y ++ Z)).symm, insert_sorted HT.out Y Z x (by have := HS.out; rw [hBB] at this; exact this) H4.out.2 H4.out.1⟩
      rw [hBB] at hr
      clear hM hBB
      have b3 : i ≤ 4000 := by omega
      have b4 : i ≤ l := by omega
      go_wp2
      obtain ⟨wo, rfl⟩ : ∃ wo : World, wo = wr := ⟨_, rfl⟩
      go_loopw [17] (fun vk wr => ∃ (k : Nat) (Z1 Z2 : List Int), vk = .int .i64 k ∧ i ≤ k ∧ k ≤ m' ∧ Hid (Z = Z1 ++ Z2) ∧ Hid (k = P.length + (Y.length + Z1.length)) ∧ w.grownBy wr (some g) ∧ IntRow wr g T (P ++ ((Y ++ Z1) ++ x :: (Z2 ++ S))))
        (fun vk _ => (intOf vk).toNat)
      case atStart => exact ⟨m', Z, [], rfl, by omega, Nat.le_refl _, by simp [Hid], by have h1 := HM.out; have h2 := congrArg List.length HBB.out; simp at h2; show _ = _; omega, hg, by simpa using hr⟩
      case round =>
        clear hr
        obtain ⟨k, Z1, Z2, rfl, hik, hkm, K1, K2, hg2, hr⟩ := hrel
        by_cases hlt2 : i < k
        · obtain ⟨X', u, hX⟩ : ∃ X' u, Z1 = X' ++ [u] := by
            rcases List.eq_nil_or_concat Z1 with h | ⟨X', u, h⟩
            · exfalso; have h1 := K2.out; have h2 := HA.out; have := H2.out; rw [h] at h1; simp at h1; omega
            · exact ⟨X', u, by simpa using h⟩
          obtain ⟨q, rfl⟩ : ∃ q, k = q + 1 := ⟨k - 1, by omega⟩
          have hq : q = P.length + (Y ++ X').length := by have h1 := K2.out; rw [hX] at h1; simp at h1 ⊢; omega
          have hr1 : IntRow wr g T (P ++ ((Y ++ X') ++ u :: x :: (Z2 ++ S))) := by rw [hX] at hr; simpa using hr
          have hlq : q + 1 < (P ++ ((Y ++ X') ++ u :: x :: (Z2 ++ S))).length := by simp at hq ⊢; omega
          have e1 := ix_at P (Y ++ X') (x :: (Z2 ++ S)) u q hq
          have e2 : ix (P ++ ((Y ++ X') ++ u :: x :: (Z2 ++ S))) (q + 1) = x := by
            have := ix_at P ((Y ++ X') ++ [u]) (Z2 ++ S) x (q + 1) (by simp at hq ⊢; omega)
            simpa using this
          have c1 := hr1.cell q (by omega)
          have c2 := hr1.cell (q + 1) hlq
          have f1 := hr1.free q
          have f2 := hr1.free (q + 1)
          have hw := hr1.swp (q + 1) q hlq (by omega)
          rw [e1, e2, swp_mid P (Y ++ X') _ u x q hq] at hw
          rw [e1] at c1; rw [e2] at c2
          have HW := Lib.hid hw; have HXX := Lib.hid hX; have HQ := Lib.hid hq
          have b6 : q + 1 < l := by omega
          clear hw hr1 hr e1 e2 hlq hX hq
          have b7 : (i : Int) < (q : Int) + 1 := by omega
          go_wp2_with fail
          go_region
          go_wp2
          go_roundw
          case rel => exact ⟨q, X', u :: Z2, rfl, by omega, by omega, by show _ = _; rw [K1.out, HXX.out]; simp, by have := HQ.out; simp [Hid] at this ⊢; omega, grown_trans hg2 (grown_trans (grown_setCell _ _ _ _) (grown_trans (grown_setCell _ _ _ _) (grown_drew1 _ _))), IntRow.drew1 (by simpa using HW.out)⟩
          case measure => simp [intOf]
        · have hY : Z1 = [] := by
            have := H2.out; have := K2.out; have := HA.out
            exact List.length_eq_zero_iff.1 (by omega)
          have FR : Hid (IntRow wr g T (P ++ ((Y ++ x :: Z) ++ S))) := by
            have h1 := K1.out; rw [hY] at h1 hr; simp at h1; subst h1; simpa [Hid] using hr
          clear hY hr
          go_wp2
          (try simp only [Exit.inBlock, Exit.then])
          refine bodyPost_ret (results_none rfl _ _ _) rfl ?_
          exact ⟨rfl, hg2, _, FR.out, FIN.out⟩
end Go.Proofs.YtgpmhaeiccljaaaDoor
