/- symMergeCmpFunc at []int: a range of one element on the left; symMergeCmpFunc at []int: a range of one element on the right. -/
import Derived.Test.YthabgljdndbphaaGreatDoorQPKP05
import Derived.WalkLawsBesides

set_option linter.unusedVariables false
set_option linter.unusedSimpArgs false
namespace Go.Proofs.YthabgljdndbphaaGreatDoor
open Go.RowKit

theorem swp_comm (D : List Int) (i j : Nat) (hi : i < D.length) (hj : j < D.length) : swp D i j = swp D j i := by
 apply list_ext_ix
 ·
  rw [swp_length, swp_length]
 ·
  intro k _
  rw [ix_swp _ _ _ _ hi hj, ix_swp _ _ _ _ hj hi]
  by_cases h1 : i = k <;> by_cases h2 : j = k
  ·
   rw [if_pos h2, if_pos h1, h1, h2]
  ·
   rw [if_neg h2, if_pos h1, if_pos h1]
  ·
   rw [if_pos h2, if_neg h1, if_pos h2]
  ·
   rw [if_neg h2, if_neg h1, if_neg h1, if_neg h2]

theorem swp_mid2 (P X Y : List Int) (u x : Int) (q : Nat) (hq : q = P.length + X.length) :
  swp (P ++ (X ++ u :: x :: Y)) q (q + 1) = P ++ (X ++ x :: u :: Y) := by
 rw [swp_comm _ _ _ (by simp; omega) (by simp; omega), swp_mid P X Y u x q hq]

/-- A list cut at a place. -/
theorem cut_at (L : List Int) (n : Nat) (h : n < L.length) : ∃ A v B, L = A ++ v :: B ∧ A.length = n :=
 ⟨L.take n, L[n], L.drop (n + 1), by rw [← List.drop_eq_getElem_cons h]; exact (List.take_append_drop n L).symm, by simp; omega⟩

theorem ix_at (P X Y : List Int) (u : Int) (q : Nat) (hq : q = P.length + X.length) : ix (P ++ (X ++ u :: Y)) q = u := by
 have := ix_mid (P ++ X) u Y; rw [hq]; simpa using this

set_option maxRecDepth 20000 in
set_option maxHeartbeats 2000000 in
theorem symMerge_left (f : Nat) (cap : Array Value) (cf : Int → Int → Int) (dom : Int → Prop) (prec : Int → Int → Prop) (g T c l : Nat) (a m b : Int) (P B S : List Int) (x : Int) (w : World)
  (hcf : ∀ (args : Array Value) (w : World), (callFunc f args).run Tryz.prog w = .ok (.enter f args) w)
  (hcmp : CmpAt f cap cf dom g w) (htr : ∀ x y z, prec x y → prec y z → prec x z)
  (hl : l = (P ++ (x :: (B ++ S))).length) (hD : l ≤ 4000) (hR : IntRow w g T (P ++ (x :: (B ++ S)))) (ha : a = P.length) (hm : m = P.length + 1) (hb : b = P.length + 1 + B.length) (hB : 0 < B.length)
  (hdom : ∀ x ∈ B, dom x) (hdx : dom x) (hs : B.Pairwise prec) (hok : ∀ v ∈ B, Ok cf prec x v) :
  Calls Tryz.prog 87 #[.slice (some ⟨g, 0, none⟩) l c, .int .i64 a, .int .i64 m, .int .i64 b, .func (.func f) #[] cap] w
   fun e w' => e = .returned (.tuple #[]) ∧ w.grownBy w' (some g) ∧ ∃ M, IntRow w' g T (P ++ (M ++ S)) ∧ M.Perm (x :: B) ∧ M.Pairwise prec := by
 have hl' : l = P.length + (1 + (B.length + S.length)) := by simp at hl; omega
 obtain ⟨a', rfl⟩ : ∃ a' : Nat, a = a' := ⟨_, ha⟩
 obtain ⟨m', rfl⟩ : ∃ a' : Nat, m = a' := ⟨P.length + 1, by omega⟩
 obtain ⟨b', rfl⟩ : ∃ a' : Nat, b = a' := ⟨P.length + 1 + B.length, by omega⟩
 have b1 : a' ≤ 4000 := by omega
 have b2 : a' < m' ∧ m' < b' ∧ b' ≤ 4000 := by omega
 have t0 : ((m' : Int) - a' == 1) = true := by rw [beq_iff_eq]; omega
 have HA : Hid (a' = P.length) := by show _ = _; omega
 have HM : Hid (m' = P.length + 1) := by show _ = _; omega
 have HB : Hid (b' = P.length + 1 + B.length) := by show _ = _; omega
 have HL := Lib.hid hl'; have HO := Lib.hid hok; have HT := Lib.hid htr; have HDM := Lib.hid hdom; have HS := Lib.hid hs
 have HC := Lib.hid hcmp; have HDX := Lib.hid hdx
 clear ha hm hb hl hl' hok htr hdom hcmp hs hdx
 have bl : b' ≤ l := by have := HL.out; have := HB.out; omega
 go_enter Tryz.func87, Tryz.ntmps87
 go_wp2
 go_loopw [10, 11, 12] (fun vi vj _ wr => ∃ (i j : Nat) (Y M Z : List Int), vi = .int .i64 i ∧ vj = .int .i64 j ∧ m' ≤ i ∧ i ≤ j ∧ j ≤ b' ∧ Hid (B = Y ++ (M ++ Z)) ∧ Hid (i = m' + Y.length) ∧ Hid (j = i + M.length) ∧
   Hid ((∀ y ∈ Y, prec y x) ∧ ∀ z ∈ Z, prec x z) ∧ w.grownBy wr (some g) ∧ IntRow wr g T (P ++ (x :: (B ++ S))))
  (fun vi vj _ _ => (intOf vj - intOf vi).toNat)
 case atStart => exact ⟨m', b', [], B, [], rfl, rfl, Nat.le_refl _, by omega, Nat.le_refl _, by simp [Hid], by simp [Hid], by have := HM.out; have := HB.out; show _ = _; omega, by simp [Hid], grown_refl _ _, hR⟩
 case round =>
  clear hR
  obtain ⟨i, j, Y, M, Z, rfl, rfl, hmi, hij, hjb, H1, H2, H3, H4, hg, hr⟩ := hrel
  by_cases hlt : i < j
  ·
   have b3 : i ≤ 4000 := by omega
   have b4 : j ≤ 4000 := by omega
   obtain ⟨h, hh⟩ : ∃ h : Nat, ((i : Int) + (j : Int)) / 2 = h := ⟨(i + j) / 2, by omega⟩
   have b5 : i ≤ h ∧ h < j := by omega
   have b6 : h < l := by omega
   obtain ⟨M1, v, M2, hM, hM1⟩ := cut_at M (h - i) (by have := H3.out; omega)
   have hB1 : B = (Y ++ M1) ++ v :: (M2 ++ Z) := by rw [H1.out, hM]; simp
   have hr1 := hr
   rw [hB1] at hr1
   have c1 := hr1.cell h (by have := H2.out; have := HM.out; simp; omega)
   have c2 := hr1.cell a' (by have := HA.out; simp; omega)
   have e1 : ix (P ++ (x :: ((Y ++ M1) ++ v :: (M2 ++ Z) ++ S))) h = v := by
    have := ix_at (P ++ [x]) (Y ++ M1) (M2 ++ Z ++ S) v h (by have := H2.out; have := HM.out; simp; omega)
    simpa using this
   have e2 : ix (P ++ (x :: ((Y ++ M1) ++ v :: (M2 ++ Z) ++ S))) a' = x := by
    have := ix_mid P x ((Y ++ M1) ++ v :: (M2 ++ Z) ++ S); rw [HA.out]; simpa using this
   rw [e1] at c1; rw [e2] at c2
   have hv : v ∈ B := by rw [hB1]; simp
   have HC2 : Hid (∀ n, Calls Tryz.prog f (#[.int .i64 v, .int .i64 x] ++ cap) (wr.drewN n) fun e w' => e = .returned (.int .i64 (cf v x)) ∧ ∃ q, w' = (wr.drewN n).drewN q) :=
    fun n => HC.out v x _ (HDM.out v hv) HDX.out (grown_trans hg (grown_drew _ _ _))
   have HV := Lib.hid (HO.out v hv)
   have hs1 := HS.out
   rw [hB1] at hs1
   have HS1 := Lib.hid hs1; have HM := Lib.hid hM; have HM1 := Lib.hid hM1; have HR := Lib.hid hr
   clear hr1 e1 e2 hB1 hs1 hM hM1 hr hv
   by_cases hlv : cf v x < 0
   ·
    have F : Hid (∀ y ∈ (Y ++ M1) ++ [v], prec y x) := last_sorted HT.out (Y ++ M1) v x [] (by have := HS1.out; rw [List.pairwise_append] at this ⊢; exact ⟨by
      rw [List.pairwise_append]; exact ⟨this.1, by simp, fun p hp q hq => this.2.2 p hp q (by simp at hq; simp [hq])⟩, by simp, by simp⟩) (HV.out.1 hlv)
    go_wp2_with fail
    go_quiet (exact Calls.quiet_of (HC2.out _))
    go_wp2
    go_roundw
    case rel => exact ⟨h + 1, j, (Y ++ M1) ++ [v], M2, Z, rfl, rfl, by omega, by omega, hjb, by show _ = _; rw [H1.out, HM.out]; simp, by have := HM1.out; have := H2.out; simp [Hid]; omega, by have h1 := H3.out; rw [HM.out] at h1; simp at h1; have := HM1.out; show _ = _; omega, ⟨F.out, H4.out.2⟩, grown_trans hg (grown_drew _ _ _), HR.out.drewN _⟩
    case measure => simp [intOf]; omega
   ·
    have F : Hid (∀ z ∈ v :: M2 ++ Z, prec x z) := by
     intro z hz
     have h1 := HS1.out
     rw [List.pairwise_append] at h1
     rcases List.mem_cons.1 (by simpa using hz : z ∈ v :: (M2 ++ Z)) with rfl | hz
     ·
      exact HV.out.2 hlv
     ·
      exact HT.out x v z (HV.out.2 hlv) ((List.pairwise_cons.1 h1.2.1).1 z hz)
    go_wp2_with fail
    go_quiet (exact Calls.quiet_of (HC2.out _))
    go_wp2
    go_roundw
    case rel => exact ⟨i, h, Y, M1, v :: M2 ++ Z, rfl, rfl, by omega, by omega, by omega, by show _ = _; rw [H1.out, HM.out]; simp, H2.out, by have := HM1.out; show _ = _; omega, ⟨H4.out.1, F.out⟩, grown_trans hg (grown_drew _ _ _), HR.out.drewN _⟩
    case measure => simp [intOf]; omega
  ·
   have hM : M = [] := by have := H3.out; exact List.length_eq_zero_iff.1 (by omega)
   have hBB : B = Y ++ Z := by rw [H1.out, hM]; simp
   have HBB := Lib.hid hBB
   have FIN : Hid ((Y ++ x :: Z).Perm (x :: B) ∧ (Y ++ x :: Z).Pairwise prec) := by
    rw [hBB]; exact ⟨List.perm_middle, insert_sorted HT.out Y Z x (by have := HS.out; rw [hBB] at this; exact this) H4.out.2 H4.out.1⟩
   rw [hBB] at hr
   clear hM hBB
   have b3 : i ≤ 4000 := by omega
   have b4 : i ≤ l := by omega
   have b5 : 1 ≤ i := by omega
   go_wp2
   obtain ⟨wo, rfl⟩ : ∃ wo : World, wo = wr := ⟨_, rfl⟩
   go_loopw [13] (fun vk wr => ∃ (k : Nat) (Y1 Y2 : List Int), vk = .int .i64 k ∧ k + 1 ≤ i ∧ Hid (Y = Y1 ++ Y2) ∧ Hid (k = P.length + Y1.length) ∧ w.grownBy wr (some g) ∧ IntRow wr g T (P ++ (Y1 ++ x :: (Y2 ++ (Z ++ S)))))
    (fun vk _ => ((i : Int) - intOf vk).toNat)
   case atStart => exact ⟨a', [], Y, rfl, by omega, by simp [Hid], by have := HA.out; simp [Hid]; omega, hg, by simpa using hr⟩
   case round =>
    clear hr
    obtain ⟨k, Y1, Y2, rfl, hki, K1, K2, hg2, hr⟩ := hrel
    by_cases hlt2 : k + 1 < i
    ·
     obtain ⟨u, Y3, hY⟩ : ∃ u Y3, Y2 = u :: Y3 := by
      cases hY : Y2 with
      | nil => exfalso; have h1 := K1.out; rw [hY] at h1; simp at h1; subst h1; have := H2.out; have := K2.out; have := HM.out; omega
      | cons u Y3 => exact ⟨u, Y3, rfl⟩
     have hr1 : IntRow wr g T (P ++ (Y1 ++ x :: u :: (Y3 ++ (Z ++ S)))) := by rw [hY] at hr; exact hr
     have e1 := ix_at P Y1 (u :: (Y3 ++ (Z ++ S))) x k K2.out
     have e2 : ix (P ++ (Y1 ++ x :: u :: (Y3 ++ (Z ++ S)))) (k + 1) = u := by
      have := ix_at P (Y1 ++ [x]) (Y3 ++ (Z ++ S)) u (k + 1) (by have := K2.out; simp; omega)
      simpa using this
     have hlk : k + 1 < (P ++ (Y1 ++ x :: u :: (Y3 ++ (Z ++ S)))).length := by have := K2.out; simp; omega
     have c1 := hr1.cell k (by omega)
     have c2 := hr1.cell (k + 1) hlk
     have f1 := hr1.free k
     have f2 := hr1.free (k + 1)
     have hw := hr1.swp k (k + 1) (by omega) hlk
     rw [e1, e2, swp_mid2 P Y1 _ x u k K2.out] at hw
     rw [e1] at c1; rw [e2] at c2
     have HW := Lib.hid hw; have HY := Lib.hid hY
     have b6 : k + 1 < l := by omega
     clear hw hr1 hr e1 e2 hlk hY
     have b7 : (k : Int) < (i : Int) - 1 := by omega
     go_wp2_with fail
     go_region
     go_wp2
     go_roundw
     case rel => exact ⟨k + 1, Y1 ++ [u], Y3, rfl, by omega, by show _ = _; rw [K1.out, HY.out]; simp, by have := K2.out; simp [Hid]; omega, grown_trans hg2 (grown_trans (grown_setCell _ _ _ _) (grown_trans (grown_setCell _ _ _ _) (grown_drew1 _ _))), IntRow.drew1 (by simpa using HW.out)⟩
     case measure => simp [intOf]; omega
    ·
     have hY : Y2 = [] := by
      have h1 := congrArg List.length K1.out; simp at h1
      have := H2.out; have := K2.out; have := HM.out
      exact List.length_eq_zero_iff.1 (by omega)
     have FR : Hid (IntRow wr g T (P ++ ((Y ++ x :: Z) ++ S))) := by
      have h1 := K1.out; rw [hY] at h1 hr; simp at h1; subst h1; simpa [Hid] using hr
     have b7 : (i : Int) - 1 ≤ (k : Int) := by omega
     clear hY hr
     go_wp2
     (try simp only [Exit.inBlock, Exit.then])
     refine bodyPost_ret (results_none rfl _ _ _) rfl ?_
     exact ⟨rfl, hg2, _, FR.out, FIN.out⟩
end Go.Proofs.YthabgljdndbphaaGreatDoor

namespace Go.Proofs.YthabgljdndbphaaGreatDoor
open Go.RowKit

set_option maxRecDepth 20000 in
set_option maxHeartbeats 2000000 in
theorem symMerge_right (f : Nat) (cap : Array Value) (cf : Int → Int → Int) (dom : Int → Prop) (prec : Int → Int → Prop) (g T c l : Nat) (a m b : Int) (P A S : List Int) (x : Int) (w : World)
  (hcf : ∀ (args : Array Value) (w : World), (callFunc f args).run Tryz.prog w = .ok (.enter f args) w)
  (hcmp : CmpAt f cap cf dom g w) (htr : ∀ x y z, prec x y → prec y z → prec x z)
  (hl : l = (P ++ (A ++ x :: S)).length) (hD : l ≤ 4000) (hR : IntRow w g T (P ++ (A ++ x :: S))) (ha : a = P.length) (hm : m = P.length + A.length) (hb : b = P.length + A.length + 1) (hA : 1 < A.length)
  (hdom : ∀ x ∈ A, dom x) (hdx : dom x) (hs : A.Pairwise prec) (hok : ∀ u ∈ A, Ok cf prec u x) :
  Calls Tryz.prog 87 #[.slice (some ⟨g, 0, none⟩) l c, .int .i64 a, .int .i64 m, .int .i64 b, .func (.func f) #[] cap] w
   fun e w' => e = .returned (.tuple #[]) ∧ w.grownBy w' (some g) ∧ ∃ M, IntRow w' g T (P ++ (M ++ S)) ∧ M.Perm (A ++ [x]) ∧ M.Pairwise prec := by
 have hl' : l = P.length + (A.length + (S.length + 1)) := by simp at hl; omega
 obtain ⟨a', rfl⟩ : ∃ a' : Nat, a = a' := ⟨_, ha⟩
 obtain ⟨m', rfl⟩ : ∃ a' : Nat, m = a' := ⟨P.length + A.length, by omega⟩
 obtain ⟨b', rfl⟩ : ∃ a' : Nat, b = a' := ⟨P.length + A.length + 1, by omega⟩
 have b1 : a' ≤ 4000 := by omega
 have b2 : a' < m' ∧ m' < b' ∧ b' ≤ 4000 := by omega
 have t0 : ((m' : Int) - a' == 1) = false := by rw [beq_eq_false_iff_ne]; omega
 have t1 : ((b' : Int) - m' == 1) = true := by rw [beq_iff_eq]; omega
 have HA : Hid (a' = P.length) := by show _ = _; omega
 have HM : Hid (m' = P.length + A.length) := by show _ = _; omega
 have HB : Hid (b' = P.length + A.length + 1) := by show _ = _; omega
 have HL := Lib.hid hl'; have HO := Lib.hid hok; have HT := Lib.hid htr; have HDM := Lib.hid hdom; have HS := Lib.hid hs
 have HC := Lib.hid hcmp; have HDX := Lib.hid hdx
 clear ha hm hb hl hl' hok htr hdom hcmp hs hdx
 have bl : b' ≤ l := by have := HL.out; have := HB.out; omega
 go_enter Tryz.func87, Tryz.ntmps87
 go_wp2
 go_loopw [14, 15, 16] (fun vi vj _ wr => ∃ (i j : Nat) (Y M Z : List Int), vi = .int .i64 i ∧ vj = .int .i64 j ∧ a' ≤ i ∧ i ≤ j ∧ j ≤ m' ∧ Hid (A = Y ++ (M ++ Z)) ∧ Hid (i = a' + Y.length) ∧ Hid (j = i + M.length) ∧
   Hid ((∀ y ∈ Y, prec y x) ∧ ∀ z ∈ Z, prec x z) ∧ w.grownBy wr (some g) ∧ IntRow wr g T (P ++ (A ++ x :: S)))
  (fun vi vj _ _ => (intOf vj - intOf vi).toNat)
 case atStart => exact ⟨a', m', [], A, [], rfl, rfl, Nat.le_refl _, by omega, Nat.le_refl _, by simp [Hid], by simp [Hid], by have := HM.out; have := HA.out; show _ = _; omega, by simp [Hid], grown_refl _ _, hR⟩
 case round =>
  clear hR
  obtain ⟨i, j, Y, M, Z, rfl, rfl, hmi, hij, hjb, H1, H2, H3, H4, hg, hr⟩ := hrel
  by_cases hlt : i < j
  ·
   have b3 : i ≤ 4000 := by omega
   have b4 : j ≤ 4000 := by omega
   obtain ⟨h, hh⟩ : ∃ h : Nat, ((i : Int) + (j : Int)) / 2 = h := ⟨(i + j) / 2, by omega⟩
   have b5 : i ≤ h ∧ h < j := by omega
   have b6 : h < l := by omega
   have b7 : m' < l := by omega
   obtain ⟨M1, v, M2, hM, hM1⟩ := cut_at M (h - i) (by have := H3.out; omega)
   have hB1 : A = (Y ++ M1) ++ v :: (M2 ++ Z) := by rw [H1.out, hM]; simp
   have c2 := hr.cell m' (by have := HM.out; simp; omega)
   have e2 := ix_at P A S x m' HM.out
   have hr1 := hr
   rw [e2] at c2
   rw [hB1] at hr1
   have c1 := hr1.cell h (by have := H2.out; have := HA.out; simp; omega)
   have e1 : ix (P ++ (((Y ++ M1) ++ v :: (M2 ++ Z)) ++ x :: S)) h = v := by
    have := ix_at P (Y ++ M1) (M2 ++ Z ++ x :: S) v h (by have := H2.out; have := HA.out; simp; omega)
    simpa using this
   rw [e1] at c1
   have hv : v ∈ A := by rw [hB1]; simp
   have HC2 : Hid (∀ n, Calls Tryz.prog f (#[.int .i64 x, .int .i64 v] ++ cap) (wr.drewN n) fun e w' => e = .returned (.int .i64 (cf x v)) ∧ ∃ q, w' = (wr.drewN n).drewN q) :=
    fun n => HC.out x v _ HDX.out (HDM.out v hv) (grown_trans hg (grown_drew _ _ _))
   have HV := Lib.hid (HO.out v hv)
   have hs1 := HS.out
   rw [hB1] at hs1
   have HS1 := Lib.hid hs1; have HMM := Lib.hid hM; have HM1 := Lib.hid hM1; have HR := Lib.hid hr
   clear hr1 e1 e2 hB1 hs1 hM hM1 hr hv
   by_cases hlv : cf x v < 0
   ·
    have t2 : decide (cf x v < 0) = true := decide_eq_true hlv
    have F : Hid (∀ z ∈ v :: M2 ++ Z, prec x z) := by
     intro z hz
     have h1 := HS1.out
     rw [List.pairwise_append] at h1
     rcases List.mem_cons.1 (by simpa using hz : z ∈ v :: (M2 ++ Z)) with rfl | hz
     ·
      exact HV.out.1 hlv
     ·
      exact HT.out x v z (HV.out.1 hlv) ((List.pairwise_cons.1 h1.2.1).1 z hz)
    go_wp2_with fail
    go_quiet (exact Calls.quiet_of (HC2.out _))
    go_wp2
    go_roundw
    case rel => exact ⟨i, h, Y, M1, v :: M2 ++ Z, rfl, rfl, by omega, by omega, by omega, by show _ = _; rw [H1.out, HMM.out]; simp, H2.out, by have := HM1.out; show _ = _; omega, ⟨H4.out.1, F.out⟩, grown_trans hg (grown_drew _ _ _), HR.out.drewN _⟩
    case measure => simp [intOf]; omega
   ·
    have t2 : decide (cf x v < 0) = false := decide_eq_false hlv
    have F : Hid (∀ y ∈ (Y ++ M1) ++ [v], prec y x) := last_sorted HT.out (Y ++ M1) v x [] (by have := HS1.out; rw [List.pairwise_append] at this ⊢; exact ⟨by
      rw [List.pairwise_append]; exact ⟨this.1, by simp, fun p hp q hq => this.2.2 p hp q (by simp at hq; simp [hq])⟩, by simp, by simp⟩) (HV.out.2 hlv)
    go_wp2_with fail
    go_quiet (exact Calls.quiet_of (HC2.out _))
    go_wp2
    go_roundw
    case rel => exact ⟨h + 1, j, (Y ++ M1) ++ [v], M2, Z, rfl, rfl, by omega, by omega, hjb, by show _ = _; rw [H1.out, HMM.out]; simp, by have := HM1.out; have := H2.out; simp [Hid]; omega, by have h1 := H3.out; rw [HMM.out] at h1; simp at h1; have := HM1.out; show _ = _; omega, ⟨F.out, H4.out.2⟩, grown_trans hg (grown_drew _ _ _), HR.out.drewN _⟩
    case measure => simp [intOf]; omega
  ·
   have hM : M = [] := by have := H3.out; exact List.length_eq_zero_iff.1 (by omega)
   have hBB : A = Y ++ Z := by rw [H1.out, hM]; simp
   have HBB := Lib.hid hBB
   have FIN : Hid ((Y ++ x :: Z).Perm (A ++ [x]) ∧ (Y ++ x :: Z).Pairwise prec) := by
    rw [hBB]; exact ⟨List.perm_middle.trans (List.perm_append_singleton x (Y ++ Z)).symm, insert_sorted HT.out Y Z x (by have := HS.out; rw [hBB] at this; exact this) H4.out.2 H4.out.1⟩
   rw [hBB] at hr
   clear hM hBB
   have b3 : i ≤ 4000 := by omega
   have b4 : i ≤ l := by omega
   go_wp2
   obtain ⟨wo, rfl⟩ : ∃ wo : World, wo = wr := ⟨_, rfl⟩
   go_loopw [17] (fun vk wr => ∃ (k : Nat) (Z1 Z2 : List Int), vk = .int .i64 k ∧ i ≤ k ∧ k ≤ m' ∧ Hid (Z = Z1 ++ Z2) ∧ Hid (k = P.length + (Y.length + Z1.length)) ∧ w.grownBy wr (some g) ∧ IntRow wr g T (P ++ ((Y ++ Z1) ++ x :: (Z2 ++ S))))
    (fun vk _ => (intOf vk).toNat)
   case atStart => exact ⟨m', Z, [], rfl, by omega, Nat.le_refl _, by simp [Hid], by have h1 := HM.out; have h2 := congrArg List.length HBB.out; simp at h2; show _ = _; omega, hg, by simpa using hr⟩
   case round =>
    clear hr
    obtain ⟨k, Z1, Z2, rfl, hik, hkm, K1, K2, hg2, hr⟩ := hrel
    by_cases hlt2 : i < k
    ·
     obtain ⟨X', u, hX⟩ : ∃ X' u, Z1 = X' ++ [u] := by
      rcases List.eq_nil_or_concat Z1 with h | ⟨X', u, h⟩
      ·
       exfalso; have h1 := K2.out; have h2 := HA.out; have := H2.out; rw [h] at h1; simp at h1; omega
      ·
       exact ⟨X', u, by simpa using h⟩
     obtain ⟨q, rfl⟩ : ∃ q, k = q + 1 := ⟨k - 1, by omega⟩
     have hq : q = P.length + (Y ++ X').length := by have h1 := K2.out; rw [hX] at h1; simp at h1 ⊢; omega
     have hr1 : IntRow wr g T (P ++ ((Y ++ X') ++ u :: x :: (Z2 ++ S))) := by rw [hX] at hr; simpa using hr
     have hlq : q + 1 < (P ++ ((Y ++ X') ++ u :: x :: (Z2 ++ S))).length := by simp at hq ⊢; omega
     have e1 := ix_at P (Y ++ X') (x :: (Z2 ++ S)) u q hq
     have e2 : ix (P ++ ((Y ++ X') ++ u :: x :: (Z2 ++ S))) (q + 1) = x := by
      have := ix_at P ((Y ++ X') ++ [u]) (Z2 ++ S) x (q + 1) (by simp at hq ⊢; omega)
      simpa using this
     have c1 := hr1.cell q (by omega)
     have c2 := hr1.cell (q + 1) hlq
     have f1 := hr1.free q
     have f2 := hr1.free (q + 1)
     have hw := hr1.swp (q + 1) q hlq (by omega)
     rw [e1, e2, swp_mid P (Y ++ X') _ u x q hq] at hw
     rw [e1] at c1; rw [e2] at c2
     have HW := Lib.hid hw; have HXX := Lib.hid hX; have HQ := Lib.hid hq
     have b6 : q + 1 < l := by omega
     clear hw hr1 hr e1 e2 hlq hX hq
     have b7 : (i : Int) < (q : Int) + 1 := by omega
     go_wp2_with fail
     go_region
     go_wp2
     go_roundw
     case rel => exact ⟨q, X', u :: Z2, rfl, by omega, by omega, by show _ = _; rw [K1.out, HXX.out]; simp, by have := HQ.out; simp [Hid] at this ⊢; omega, grown_trans hg2 (grown_trans (grown_setCell _ _ _ _) (grown_trans (grown_setCell _ _ _ _) (grown_drew1 _ _))), IntRow.drew1 (by simpa using HW.out)⟩
     case measure => simp [intOf]
    ·
     have hY : Z1 = [] := by
      have := H2.out; have := K2.out; have := HA.out
      exact List.length_eq_zero_iff.1 (by omega)
     have FR : Hid (IntRow wr g T (P ++ ((Y ++ x :: Z) ++ S))) := by
      have h1 := K1.out; rw [hY] at h1 hr; simp at h1; subst h1; simpa [Hid] using hr
     clear hY hr
     go_wp2
     (try simp only [Exit.inBlock, Exit.then])
     refine bodyPost_ret (results_none rfl _ _ _) rfl ?_
     exact ⟨rfl, hg2, _, FR.out, FIN.out⟩
end Go.Proofs.YthabgljdndbphaaGreatDoor
