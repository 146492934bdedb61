/- symMergeCmpFunc at []int: a range of one element on the right; symMergeCmpFunc at []int: two ranges of any length; symMergeCmpFunc, stableCmpFunc and SortStableFunc at []int. -/
import Derived.Test.YthabgljdndbphaaGreatDoorQPKM05
import Derived.Deep.DeepCutAuto

set_option linter.unusedVariables false
set_option linter.unusedSimpArgs false
namespace Go.Proofs.YthabgljdndbphaaGreatDoor
open Go.RowKit

set_option maxRecDepth 20000 in
set_option maxHeartbeats 2000000 in
theorem symMerge_right (f : Nat) (cap : Array Value) (cf : Int → Int → Int) (dom : Int → Prop) (prec : Int → Int → Prop) (g T c l : Nat) (a m b : Int) (P A S : List Int) (x : Int) (w : World)
  (hcf : ∀ (args : Array Value) (w : World), (callFunc f args).run Tryz.prog w = .ok (.enter f args) w)
  (hcmp : CmpAt f cap cf dom g w) (htr : ∀ x y z, prec x y → prec y z → prec x z)
  (hl : l = (P ++ (A ++ x :: S)).length) (hD : l ≤ 4000) (hR : IntRow w g T (P ++ (A ++ x :: S))) (ha : a = P.length) (hm : m = P.length + A.length) (hb : b = P.length + A.length + 1) (hA : 1 < A.length)
  (hdom : ∀ x ∈ A, dom x) (hdx : dom x) (hs : A.Pairwise prec) (hok : ∀ u ∈ A, Ok cf prec u x) :
  Calls Tryz.prog 87 #[.slice (some ⟨g, 0, none⟩) l c, .int .i64 a, .int .i64 m, .int .i64 b, .func (.func f) #[] cap] w
   fun e w' => e = .returned (.tuple #[]) ∧ w.grownBy w' (some g) ∧ ∃ M, IntRow w' g T (P ++ (M ++ S)) ∧ M.Perm (A ++ [x]) ∧ M.Pairwise prec := by
 have hl' : l = P.length + (A.length + (S.length + 1)) := by simp at hl; omega
 obtain ⟨a', rfl⟩ : ∃ a' : Nat, a = a' := ⟨_, ha⟩
 obtain ⟨m', rfl⟩ : ∃ a' : Nat, m = a' := ⟨P.length + A.length, by omega⟩
 obtain ⟨b', rfl⟩ : ∃ a' : Nat, b = a' := ⟨P.length + A.length + 1, by omega⟩
 have b1 : a' ≤ 4000 := by omega
 have b2 : a' < m' ∧ m' < b' ∧ b' ≤ 4000 := by omega
 have t0 : ((m' : Int) - a' == 1) = false := by rw [beq_eq_false_iff_ne]; omega
 have t1 : ((b' : Int) - m' == 1) = true := by rw [beq_iff_eq]; omega
 have HA : Hid (a' = P.length) := by show _ = _; omega
 have HM : Hid (m' = P.length + A.length) := by show _ = _; omega
 have HB : Hid (b' = P.length + A.length + 1) := by show _ = _; omega
 have HL := Lib.hid hl'; have HO := Lib.hid hok; have HT := Lib.hid htr; have HDM := Lib.hid hdom; have HS := Lib.hid hs
 have HC := Lib.hid hcmp; have HDX := Lib.hid hdx
 clear ha hm hb hl hl' hok htr hdom hcmp hs hdx
 have bl : b' ≤ l := by have := HL.out; have := HB.out; omega
 go_enter Tryz.func87, Tryz.ntmps87
 go_wp2
 go_loopw [14, 15, 16] (fun vi vj _ wr => ∃ (i j : Nat) (Y M Z : List Int), vi = .int .i64 i ∧ vj = .int .i64 j ∧ a' ≤ i ∧ i ≤ j ∧ j ≤ m' ∧ Hid (A = Y ++ (M ++ Z)) ∧ Hid (i = a' + Y.length) ∧ Hid (j = i + M.length) ∧
   Hid ((∀ y ∈ Y, prec y x) ∧ ∀ z ∈ Z, prec x z) ∧ w.grownBy wr (some g) ∧ IntRow wr g T (P ++ (A ++ x :: S)))
  (fun vi vj _ _ => (intOf vj - intOf vi).toNat)
 case atStart => exact ⟨a', m', [], A, [], rfl, rfl, Nat.le_refl _, by omega, Nat.le_refl _, by simp [Hid], by simp [Hid], by have := HM.out; have := HA.out; show _ = _; omega, by simp [Hid], grown_refl _ _, hR⟩
 case round =>
  clear hR
  obtain ⟨i, j, Y, M, Z, rfl, rfl, hmi, hij, hjb, H1, H2, H3, H4, hg, hr⟩ := hrel
  by_cases hlt : i < j
  ·
   have b3 : i ≤ 4000 := by omega
   have b4 : j ≤ 4000 := by omega
   obtain ⟨h, hh⟩ : ∃ h : Nat, ((i : Int) + (j : Int)) / 2 = h := ⟨(i + j) / 2, by omega⟩
   have b5 : i ≤ h ∧ h < j := by omega
   have b6 : h < l := by omega
   have b7 : m' < l := by omega
   obtain ⟨M1, v, M2, hM, hM1⟩ := cut_at M (h - i) (by have := H3.out; omega)
   have hB1 : A = (Y ++ M1) ++ v :: (M2 ++ Z) := by rw [H1.out, hM]; simp
   have c2 := hr.cell m' (by have := HM.out; simp; omega)
   have e2 := ix_at P A S x m' HM.out
   have hr1 := hr
   rw [e2] at c2
   rw [hB1] at hr1
   have c1 := hr1.cell h (by have := H2.out; have := HA.out; simp; omega)
   have e1 : ix (P ++ (((Y ++ M1) ++ v :: (M2 ++ Z)) ++ x :: S)) h = v := by
    have := ix_at P (Y ++ M1) (M2 ++ Z ++ x :: S) v h (by have := H2.out; have := HA.out; simp; omega)
    simpa using this
   rw [e1] at c1
   have hv : v ∈ A := by rw [hB1]; simp
   have HC2 : Hid (∀ n, Calls Tryz.prog f (#[.int .i64 x, .int .i64 v] ++ cap) (wr.drewN n) fun e w' => e = .returned (.int .i64 (cf x v)) ∧ ∃ q, w' = (wr.drewN n).drewN q) :=
    fun n => HC.out x v _ HDX.out (HDM.out v hv) (grown_trans hg (grown_drew _ _ _))
   have HV := Lib.hid (HO.out v hv)
   have hs1 := HS.out
   rw [hB1] at hs1
   have HS1 := Lib.hid hs1; have HMM := Lib.hid hM; have HM1 := Lib.hid hM1; have HR := Lib.hid hr
   clear hr1 e1 e2 hB1 hs1 hM hM1 hr hv
   by_cases hlv : cf x v < 0
   ·
    have t2 : decide (cf x v < 0) = true := decide_eq_true hlv
    have F : Hid (∀ z ∈ v :: M2 ++ Z, prec x z) := by
     intro z hz
     have h1 := HS1.out
     rw [List.pairwise_append] at h1
     rcases List.mem_cons.1 (by simpa using hz : z ∈ v :: (M2 ++ Z)) with rfl | hz
     ·
      exact HV.out.1 hlv
     ·
      exact HT.out x v z (HV.out.1 hlv) ((List.pairwise_cons.1 h1.2.1).1 z hz)
    go_wp2_with fail
    go_quiet (exact Calls.quiet_of (HC2.out _))
    go_wp2
    go_roundw
    case rel => exact ⟨i, h, Y, M1, v :: M2 ++ Z, rfl, rfl, by omega, by omega, by omega, by show _ = _; rw [H1.out, HMM.out]; simp, H2.out, by have := HM1.out; show _ = _; omega, ⟨H4.out.1, F.out⟩, grown_trans hg (grown_drew _ _ _), HR.out.drewN _⟩
    case measure => simp [intOf]; omega
   ·
    have t2 : decide (cf x v < 0) = false := decide_eq_false hlv
    have F : Hid (∀ y ∈ (Y ++ M1) ++ [v], prec y x) := last_sorted HT.out (Y ++ M1) v x [] (by have := HS1.out; rw [List.pairwise_append] at this ⊢; exact ⟨by
      rw [List.pairwise_append]; exact ⟨this.1, by simp, fun p hp q hq => this.2.2 p hp q (by simp at hq; simp [hq])⟩, by simp, by simp⟩) (HV.out.2 hlv)
    go_wp2_with fail
    go_quiet (exact Calls.quiet_of (HC2.out _))
    go_wp2
    go_roundw
    case rel => exact ⟨h + 1, j, (Y ++ M1) ++ [v], M2, Z, rfl, rfl, by omega, by omega, hjb, by show _ = _; rw [H1.out, HMM.out]; simp, by have := HM1.out; have := H2.out; simp [Hid]; omega, by have h1 := H3.out; rw [HMM.out] at h1; simp at h1; have := HM1.out; show _ = _; omega, ⟨F.out, H4.out.2⟩, grown_trans hg (grown_drew _ _ _), HR.out.drewN _⟩
    case measure => simp [intOf]; omega
  ·
   have hM : M = [] := by have := H3.out; exact List.length_eq_zero_iff.1 (by omega)
   have hBB : A = Y ++ Z := by rw [H1.out, hM]; simp
   have HBB := Lib.hid hBB
   have FIN : Hid ((Y ++ x :: Z).Perm (A ++ [x]) ∧ (Y ++ x :: Z).Pairwise prec) := by
    rw [hBB]; exact ⟨List.perm_middle.trans (List.perm_append_singleton x (Y ++ Z)).symm, insert_sorted HT.out Y Z x (by have := HS.out; rw [hBB] at this; exact this) H4.out.2 H4.out.1⟩
   rw [hBB] at hr
   clear hM hBB
   have b3 : i ≤ 4000 := by omega
   have b4 : i ≤ l := by omega
   go_wp2
   obtain ⟨wo, rfl⟩ : ∃ wo : World, wo = wr := ⟨_, rfl⟩
   go_loopw [17] (fun vk wr => ∃ (k : Nat) (Z1 Z2 : List Int), vk = .int .i64 k ∧ i ≤ k ∧ k ≤ m' ∧ Hid (Z = Z1 ++ Z2) ∧ Hid (k = P.length + (Y.length + Z1.length)) ∧ w.grownBy wr (some g) ∧ IntRow wr g T (P ++ ((Y ++ Z1) ++ x :: (Z2 ++ S))))
    (fun vk _ => (intOf vk).toNat)
   case atStart => exact ⟨m', Z, [], rfl, by omega, Nat.le_refl _, by simp [Hid], by have h1 := HM.out; have h2 := congrArg List.length HBB.out; simp at h2; show _ = _; omega, hg, by simpa using hr⟩
   case round =>
    clear hr
    obtain ⟨k, Z1, Z2, rfl, hik, hkm, K1, K2, hg2, hr⟩ := hrel
    by_cases hlt2 : i < k
    ·
     obtain ⟨X', u, hX⟩ : ∃ X' u, Z1 = X' ++ [u] := by
      rcases List.eq_nil_or_concat Z1 with h | ⟨X', u, h⟩
      ·
       exfalso; have h1 := K2.out; have h2 := HA.out; have := H2.out; rw [h] at h1; simp at h1; omega
      ·
       exact ⟨X', u, by simpa using h⟩
     obtain ⟨q, rfl⟩ : ∃ q, k = q + 1 := ⟨k - 1, by omega⟩
     have hq : q = P.length + (Y ++ X').length := by have h1 := K2.out; rw [hX] at h1; simp at h1 ⊢; omega
     have hr1 : IntRow wr g T (P ++ ((Y ++ X') ++ u :: x :: (Z2 ++ S))) := by rw [hX] at hr; simpa using hr
     have hlq : q + 1 < (P ++ ((Y ++ X') ++ u :: x :: (Z2 ++ S))).length := by simp at hq ⊢; omega
     have e1 := ix_at P (Y ++ X') (x :: (Z2 ++ S)) u q hq
     have e2 : ix (P ++ ((Y ++ X') ++ u :: x :: (Z2 ++ S))) (q + 1) = x := by
      have := ix_at P ((Y ++ X') ++ [u]) (Z2 ++ S) x (q + 1) (by simp at hq ⊢; omega)
      simpa using this
     have c1 := hr1.cell q (by omega)
     have c2 := hr1.cell (q + 1) hlq
     have f1 := hr1.free q
     have f2 := hr1.free (q + 1)
     have hw := hr1.swp (q + 1) q hlq (by omega)
     rw [e1, e2, swp_mid P (Y ++ X') _ u x q hq] at hw
     rw [e1] at c1; rw [e2] at c2
     have HW := Lib.hid hw; have HXX := Lib.hid hX; have HQ := Lib.hid hq
     have b6 : q + 1 < l := by omega
     clear hw hr1 hr e1 e2 hlq hX hq
     have b7 : (i : Int) < (q : Int) + 1 := by omega
     go_wp2_with fail
     go_region
     go_wp2
     go_roundw
     case rel => exact ⟨q, X', u :: Z2, rfl, by omega, by omega, by show _ = _; rw [K1.out, HXX.out]; simp, by have := HQ.out; simp [Hid] at this ⊢; omega, grown_trans hg2 (grown_trans (grown_setCell _ _ _ _) (grown_trans (grown_setCell _ _ _ _) (grown_drew1 _ _))), IntRow.drew1 (by simpa using HW.out)⟩
     case measure => simp [intOf]
    ·
     have hY : Z1 = [] := by
      have := H2.out; have := K2.out; have := HA.out
      exact List.length_eq_zero_iff.1 (by omega)
     have FR : Hid (IntRow wr g T (P ++ ((Y ++ x :: Z) ++ S))) := by
      have h1 := K1.out; rw [hY] at h1 hr; simp at h1; subst h1; simpa [Hid] using hr
     clear hY hr
     go_wp2
     (try simp only [Exit.inBlock, Exit.then])
     refine bodyPost_ret (results_none rfl _ _ _) rfl ?_
     exact ⟨rfl, hg2, _, FR.out, FIN.out⟩
end Go.Proofs.YthabgljdndbphaaGreatDoor

namespace Go.Proofs.YthabgljdndbphaaGreatDoor
open Go.RowKit

theorem take_last (A : List Int) (s : Nat) (h0 : 0 < s) (h : s ≤ A.length) : A.take s = A.take (s - 1) ++ [ix A (s - 1)] := by
 obtain ⟨t, rfl⟩ : ∃ t, s = t + 1 := ⟨s - 1, by omega⟩
 rw [List.take_succ_eq_append_getElem (by omega)]
 simp [ix, List.getD_eq_getElem?_getD, show t < A.length from by omega]

theorem drop_head (A : List Int) (s : Nat) (h : s < A.length) : A.drop s = ix A s :: A.drop (s + 1) := by
 rw [List.drop_eq_getElem_cons h]
 simp [ix, List.getD_eq_getElem?_getD, h]

/-- All of a sorted list's first s are before all of another one's from e on, if the last and the first are. -/
theorem cross {prec : Int → Int → Prop} (htr : ∀ x y z, prec x y → prec y z → prec x z) (A B : List Int) (s e : Nat) (hA : A.Pairwise prec) (hB : B.Pairwise prec) (hs : s ≤ A.length)
  (h : 0 < s → e < B.length → prec (ix A (s - 1)) (ix B e)) : ∀ u ∈ A.take s, ∀ v ∈ B.drop e, prec u v := by
 intro u hu v hv
 have h0 : 0 < s := by
  rcases Nat.eq_zero_or_pos s with h | h
  ·
   rw [h] at hu; simp at hu
  ·
   exact h
 have h1 : e < B.length := by
  rcases Nat.lt_or_ge e B.length with h | h
  ·
   exact h
  ·
   rw [List.drop_eq_nil_of_le h] at hv; simp at hv
 have hp := h h0 h1
 have k1 : prec u (ix B e) := by
  rw [take_last A s h0 hs] at hu
  rcases List.mem_append.1 hu with hu | hu
  ·
   have h2 : (A.take s).Pairwise prec := List.Pairwise.sublist (List.take_sublist _ _) hA
   rw [take_last A s h0 hs, List.pairwise_append] at h2
   exact htr _ _ _ (h2.2.2 u hu _ (by simp)) hp
  ·
   rw [List.mem_singleton.1 hu]; exact hp
 rw [drop_head B e h1] at hv
 rcases List.mem_cons.1 hv with rfl | hv
 ·
  exact k1
 ·
  have h2 : (B.drop e).Pairwise prec := List.Pairwise.sublist (List.drop_sublist _ _) hB
  rw [drop_head B e h1, List.pairwise_cons] at h2
  exact htr _ _ _ k1 (h2.1 v hv)

/-- The statement of symMerge's contract, for ranges A and B. -/
def SymMerge (f : Nat) (cap : Array Value) (cf : Int → Int → Int) (dom : Int → Prop) (prec : Int → Int → Prop) (g T c l : Nat) (A B : List Int) : Prop :=
 ∀ (a m b : Int) (P S : List Int) (w : World), CmpAt f cap cf dom g w → l = (P ++ (A ++ (B ++ S))).length → IntRow w g T (P ++ (A ++ (B ++ S))) → a = P.length → m = P.length + A.length → b = P.length + (A.length + B.length) →
  (∀ x ∈ A, dom x) → (∀ x ∈ B, dom x) → A.Pairwise prec → B.Pairwise prec → (∀ u ∈ A, ∀ v ∈ B, Ok cf prec u v) →
  Calls Tryz.prog 87 #[.slice (some ⟨g, 0, none⟩) l c, .int .i64 a, .int .i64 m, .int .i64 b, .func (.func f) #[] cap] w
   fun e w' => e = .returned (.tuple #[]) ∧ w.grownBy w' (some g) ∧ ∃ M, IntRow w' g T (P ++ (M ++ S)) ∧ M.Perm (A ++ B) ∧ M.Pairwise prec

/-- What the search ends with: both ranges cut so that the left parts come before the right ones. -/
structure CutOk (prec : Int → Int → Prop) (A B : List Int) (s e : Nat) : Prop where
 hs : s ≤ A.length
 he : e ≤ B.length
 ab : ∀ u ∈ A.take s, ∀ v ∈ B.drop e, prec u v
 ba : ∀ v ∈ B.take e, ∀ u ∈ A.drop s, prec v u

theorem merge_two {prec : Int → Int → Prop} {A B : List Int} {s e : Nat} (h : CutOk prec A B s e) (hA : A.Pairwise prec) (hB : B.Pairwise prec) (M1 M2 : List Int)
  (p1 : M1.Perm (A.take s ++ B.take e)) (p2 : M2.Perm (A.drop s ++ B.drop e)) (o1 : M1.Pairwise prec) (o2 : M2.Pairwise prec) : (M1 ++ M2).Perm (A ++ B) ∧ (M1 ++ M2).Pairwise prec := by
 refine ⟨?_, ?_⟩
 ·
  have h1 := p1.append p2
  refine h1.trans ?_
  have : (A.take s ++ B.take e ++ (A.drop s ++ B.drop e)).Perm ((A.take s ++ A.drop s) ++ (B.take e ++ B.drop e)) := by
   simp only [List.append_assoc]
   refine List.Perm.append_left _ ?_
   rw [← List.append_assoc, ← List.append_assoc]
   exact List.Perm.append_right _ List.perm_append_comm
  simpa using this
 ·
  rw [List.pairwise_append]
  refine ⟨o1, o2, fun u hu v hv => ?_⟩
  rw [← List.take_append_drop s A, List.pairwise_append] at hA
  rw [← List.take_append_drop e B, List.pairwise_append] at hB
  rcases List.mem_append.1 (p1.mem_iff.1 hu) with hu | hu <;> rcases List.mem_append.1 (p2.mem_iff.1 hv) with hv | hv
  ·
   exact hA.2.2 u hu v hv
  ·
   exact h.ab u hu v hv
  ·
   exact h.ba u hu v hv
  ·
   exact hB.2.2 u hu v hv

set_option maxRecDepth 20000 in
set_option maxHeartbeats 4000000 in
theorem symMerge_gen (f : Nat) (cap : Array Value) (cf : Int → Int → Int) (dom : Int → Prop) (prec : Int → Int → Prop) (g T c l : Nat) (A B : List Int)
  (hcf : ∀ (args : Array Value) (w : World), (callFunc f args).run Tryz.prog w = .ok (.enter f args) w)
  (htr : ∀ x y z, prec x y → prec y z → prec x z) (hD : l ≤ 4000) (hA : 1 < A.length) (hB : 1 < B.length)
  (ih : ∀ A' B' : List Int, 0 < A'.length → 0 < B'.length → A'.length + B'.length < A.length + B.length → SymMerge f cap cf dom prec g T c l A' B') : SymMerge f cap cf dom prec g T c l A B := by
 intro a m b P S w hcmp hl hR ha hm hb hdA hdB hsA hsB hok
 have hl' : l = P.length + (A.length + (B.length + S.length)) := by simp at hl; omega
 obtain ⟨a', rfl⟩ : ∃ a' : Nat, a = a' := ⟨_, ha⟩
 obtain ⟨m', rfl⟩ : ∃ a' : Nat, m = a' := ⟨P.length + A.length, by omega⟩
 obtain ⟨b', rfl⟩ : ∃ a' : Nat, b = a' := ⟨P.length + (A.length + B.length), by omega⟩
 have b1 : a' + 2 ≤ m' ∧ m' + 2 ≤ b' ∧ b' ≤ 4000 := by omega
 have t0 : ((m' : Int) - a' == 1) = false := by rw [beq_eq_false_iff_ne]; omega
 have t1 : ((b' : Int) - m' == 1) = false := by rw [beq_eq_false_iff_ne]; omega
 have HA : Hid (a' = P.length) := by show _ = _; omega
 have HM : Hid (m' = P.length + A.length) := by show _ = _; omega
 have HB : Hid (b' = P.length + (A.length + B.length)) := by show _ = _; omega
 have HL := Lib.hid hl'; have HO := Lib.hid hok; have HT := Lib.hid htr; have HDA := Lib.hid hdA; have HDB := Lib.hid hdB; have HSA := Lib.hid hsA; have HSB := Lib.hid hsB
 have HC := Lib.hid hcmp; have IH := Lib.hid ih
 clear ha hm hb hl hl' hok htr hdA hdB hcmp hsA hsB ih
 have bl : b' ≤ l := by have := HL.out; have := HB.out; omega
 obtain ⟨mid, hmid⟩ : ∃ h : Nat, ((a' : Int) + (b' : Int)) / 2 = h := ⟨(a' + b') / 2, by omega⟩
 have hm2 : 2 * mid ≤ a' + b' ∧ a' + b' ≤ 2 * mid + 1 := by omega
 obtain ⟨s0, r0, hs0⟩ : ∃ s0 r0 : Nat, (mid < m' ∧ s0 + b' = mid + m' ∧ r0 = mid) ∨ (m' ≤ mid ∧ s0 = a' ∧ r0 = m') := by
  rcases Nat.lt_or_ge mid m' with h | h
  ·
   exact ⟨mid + m' - b', mid, .inl ⟨h, by omega, rfl⟩⟩
  ·
   exact ⟨a', m', .inr ⟨h, rfl, rfl⟩⟩
 have hsr : s0 ≤ r0 ∧ a' ≤ s0 ∧ r0 ≤ m' ∧ r0 ≤ mid := by omega
 have HS0 := Lib.hid hs0
 have key : ∀ wr, w.grownBy wr (some g) → IntRow wr g T (P ++ (A ++ (B ++ S))) → True := fun _ _ _ => trivial
 clear key
 go_enter Tryz.func87, Tryz.ntmps87
 go_upto_if 140 with fail
 go_cut [20, 21] (fun v20 v21 wx => v20 = .int .i64 s0 ∧ v21 = .int .i64 r0 ∧ w = wx)
 case first => as_aux_lemma =>
  rcases hs0 with ⟨h1, h2, h3⟩ | ⟨h1, h2, h3⟩
  ·
   have H2 : Hid ((mid : Int) + m' - b' = s0) := by show _ = _; omega
   have H3 := Lib.hid h3
   clear h2 h3 HS0
   go_wp2
   go_meet
   case rel => exact ⟨by rw [H2.out], by rw [H3.out], rfl⟩
  ·
   have H2 := Lib.hid h2
   have H3 := Lib.hid h3
   clear h2 h3 HS0
   go_wp2
   go_meet
   case rel => exact ⟨by rw [H2.out], by rw [H3.out], rfl⟩
 case rest =>
  obtain ⟨rfl, rfl, rfl⟩ := hcut
  clear hs0
  go_wp2
  go_loopw [20, 21, 23] (fun v20 v21 _ wr => ∃ st r : Nat, v20 = .int .i64 st ∧ v21 = .int .i64 r ∧ s0 ≤ st ∧ st ≤ r ∧ r ≤ r0 ∧ Hid (st = s0 ∨ prec (ix A (st - 1 - a')) (ix B (mid - st))) ∧ Hid (r = r0 ∨ prec (ix B (mid - 1 - r)) (ix A (r - a'))) ∧
    w.grownBy wr (some g) ∧ IntRow wr g T (P ++ (A ++ (B ++ S))))
   (fun v20 v21 _ _ => (intOf v21 - intOf v20).toNat)
  case atStart => exact ⟨s0, r0, rfl, rfl, Nat.le_refl _, hsr.1, Nat.le_refl _, .inl rfl, .inl rfl, grown_refl _ _, hR⟩
  case round =>
   clear hR
   obtain ⟨st, r, rfl, rfl, h1, h2, h3, Q1, Q2, hg, hr⟩ := hrel
   by_cases hlt : st < r
   ·
    have b3 : st ≤ 4000 := by omega
    have b4 : r ≤ 4000 := by omega
    obtain ⟨h, hh⟩ : ∃ h : Nat, ((st : Int) + (r : Int)) / 2 = h := ⟨(st + r) / 2, by omega⟩
    have b5 : st ≤ h ∧ h < r := by omega
    obtain ⟨e, he⟩ : ∃ e : Nat, (mid : Int) + (m' : Int) - 1 - (h : Int) = e := ⟨mid + m' - 1 - h, by omega⟩
    have b6 : m' ≤ e ∧ e < b' := by have := HS0.out; omega
    have b7 : e < l := by omega
    have b8 : h < l := by omega
    have x1 : ix (P ++ (A ++ (B ++ S))) h = ix A (h - a') := by
     have := HA.out; have := HM.out
     rw [ix_append, if_neg (by omega), ix_append, if_pos (by omega)]; congr 1; omega
    have x2 : ix (P ++ (A ++ (B ++ S))) e = ix B (mid - 1 - h) := by
     have := HA.out; have := HM.out; have := HB.out
     rw [ix_append, if_neg (by omega), ix_append, if_neg (by omega), ix_append, if_pos (by omega)]; congr 1; omega
    have hL : (P ++ (A ++ (B ++ S))).length = l := by have := HL.out; simp; omega
    have c1 := hr.cell h (by omega)
    have c2 := hr.cell e (by omega)
    rw [x1] at c1; rw [x2] at c2
    have hu : ix A (h - a') ∈ A := by
     have := HA.out; have := HM.out
     have hlt : h - a' < A.length := by omega
     simp [ix, List.getD_eq_getElem?_getD, hlt]
    have hv : ix B (mid - 1 - h) ∈ B := by
     have := HA.out; have := HM.out; have := HB.out
     have hlt : mid - 1 - h < B.length := by omega
     simp [ix, List.getD_eq_getElem?_getD, hlt]
    have HOK := Lib.hid (HO.out _ hu _ hv)
    have HC2 : Hid (∀ n, Calls Tryz.prog f (#[.int .i64 (ix B (mid - 1 - h)), .int .i64 (ix A (h - a'))] ++ cap) (wr.drewN n) fun e w' => e = .returned (.int .i64 (cf (ix B (mid - 1 - h)) (ix A (h - a')))) ∧ ∃ q, w' = (wr.drewN n).drewN q) :=
     fun n => HC.out _ _ _ (HDB.out _ hv) (HDA.out _ hu) (grown_trans hg (grown_drew _ _ _))
    have HR := Lib.hid hr
    clear x1 x2 hL hu hv hr
    obtain ⟨u, hu⟩ : ∃ u, u = ix A (h - a') := ⟨_, rfl⟩
    obtain ⟨v, hv⟩ : ∃ v, v = ix B (mid - 1 - h) := ⟨_, rfl⟩
    rw [← hu] at c1 HC2 HOK; rw [← hv] at c2 HC2 HOK
    have HU := Lib.hid hu; have HV := Lib.hid hv
    clear hu hv
    by_cases hlv : cf v u < 0
    ·
     as_aux_lemma =>
     have t2 : decide (cf v u < 0) = true := decide_eq_true hlv
     go_wp2_with fail
     go_quiet (exact Calls.quiet_of (HC2.out _))
     go_wp2
     go_roundw
     case rel => exact ⟨st, h, rfl, rfl, h1, by omega, by omega, Q1, .inr (by rw [← HU.out, ← HV.out]; exact HOK.out.1 hlv), grown_trans hg (grown_drew _ _ _), HR.out.drewN _⟩
     case measure => simp [intOf]; omega
    ·
     as_aux_lemma =>
     have t2 : decide (cf v u < 0) = false := decide_eq_false hlv
     go_wp2_with fail
     go_quiet (exact Calls.quiet_of (HC2.out _))
     go_wp2
     go_roundw
     case rel => exact ⟨h + 1, r, rfl, rfl, by omega, by omega, by omega, .inr (by rw [show h + 1 - 1 - a' = h - a' from by omega, show mid - (h + 1) = mid - 1 - h from by omega, ← HU.out, ← HV.out]; exact HOK.out.2 (by omega)), Q2, grown_trans hg (grown_drew _ _ _), HR.out.drewN _⟩
     case measure => simp [intOf]; omega
   ·
    obtain rfl : r = st := by omega
    obtain ⟨en, hen⟩ : ∃ e : Nat, (mid : Int) + (m' : Int) - (r : Int) = e := ⟨mid + m' - r, by omega⟩
    have b6 : m' ≤ en ∧ en ≤ b' ∧ en + r = mid + m' := by have := HS0.out; omega
    obtain ⟨s, hs⟩ : ∃ s, s = r - a' := ⟨_, rfl⟩
    obtain ⟨e, he⟩ : ∃ e, e = en - m' := ⟨_, rfl⟩
    have CUT : Hid (CutOk prec A B s e) := by
     have := HA.out; have := HM.out; have := HB.out; have hS := HS0.out
     have q1 := Q1.out; have q2 := Q2.out
     refine ⟨by omega, by omega, cross HT.out A B s e HSA.out HSB.out (by omega) (fun p1 p2 => ?_), cross HT.out B A e s HSB.out HSA.out (by omega) (fun p1 p2 => ?_)⟩
     ·
      rcases q1 with q1 | q1
      ·
       exfalso; omega
      ·
       rw [hs, he, show r - a' - 1 = r - 1 - a' from by omega, show en - m' = mid - r from by omega]; exact q1
     ·
      rcases q2 with q2 | q2
      ·
       exfalso; omega
      ·
       rw [hs, he, show en - m' - 1 = mid - 1 - r from by omega]; exact q2
    have Hs := Lib.hid hs; have He := Lib.hid he
    have LA : Hid ((A.take s).length = s ∧ (A.drop s).length = A.length - s ∧ s ≤ A.length) := ⟨by have := CUT.out.hs; rw [List.length_take]; omega, List.length_drop, CUT.out.hs⟩
    have LB : Hid ((B.take e).length = e ∧ (B.drop e).length = B.length - e ∧ e ≤ B.length) := ⟨by have := CUT.out.he; rw [List.length_take]; omega, List.length_drop, CUT.out.he⟩
    have hr1 : IntRow wr g T ((P ++ A.take s) ++ (A.drop s ++ (B.take e ++ (B.drop e ++ S)))) := by
     have h4 : P ++ (A ++ (B ++ S)) = (P ++ A.take s) ++ (A.drop s ++ (B.take e ++ (B.drop e ++ S))) := by
      rw [List.append_assoc, ← List.append_assoc (A.take s), List.take_append_drop, ← List.append_assoc (B.take e), List.take_append_drop]
     rw [h4] at hr; exact hr
    clear hr hs he Q1 Q2
    go_upto_region 39 with fail
    go_cut [185] (fun v wx => (∃ q : Bool, v = .bool q ∧ q = decide (r < m' ∧ m' < en)) ∧ wr = wx)
    case first => as_aux_lemma =>
     by_cases c1 : r < m'
     ·
      by_cases c2 : m' < en
      ·
       go_wp2
       go_meet
       case rel => exact ⟨⟨_, rfl, by simp [c1, c2]⟩, rfl⟩
      ·
       go_wp2
       go_meet
       case rel => exact ⟨⟨_, rfl, by simp [c2]⟩, rfl⟩
     ·
      go_wp2
      go_meet
      case rel => exact ⟨⟨_, rfl, by simp [c1]⟩, rfl⟩
    case rest =>
    obtain ⟨⟨q, rfl, hq⟩, rfl⟩ := hcut
    have HQ := Lib.hid hq; clear hq
    go_upto_if 185 with fail
    go_cut [] (fun wx => w.grownBy wx (some g) ∧ IntRow wx g T (P ++ (A.take s ++ (B.take e ++ ((A.drop s ++ B.drop e) ++ S)))))
    case first => as_aux_lemma =>
     cases q
     ·
      have hz : Hid (B.take e = [] ∨ A.drop s = []) := by
       have h1 := of_decide_eq_false HQ.out.symm
       have := LA.out; have := LB.out; have := Hs.out; have := He.out; have := HA.out; have := HM.out
       rcases Nat.lt_or_ge r m' with h | h
       ·
        exact .inl (List.length_eq_zero_iff.1 (by omega))
       ·
        exact .inr (List.length_eq_zero_iff.1 (by omega))
      go_wp2
      go_meet
      case rel => exact ⟨hg, by rcases hz.out with h | h <;> rw [h] at hr1 ⊢ <;> simpa using hr1⟩
     ·
      have h1 := of_decide_eq_true HQ.out.symm
      go_wp2_with fail
      refine (rotate_any f cap g T c l _ _ _ (P ++ A.take s) (A.drop s) (B.take e) (B.drop e ++ S) wr (by have := LA.out; have := LB.out; have := HL.out; simp; omega) hD hr1 (by have := LA.out; have := Hs.out; have := HA.out; simp; omega) (by have := LA.out; have := HM.out; simp; omega)
        (by have := LA.out; have := LB.out; have := HM.out; have := He.out; simp; omega) (by have := LA.out; have := HM.out; have := Hs.out; have := HA.out; omega) (by have := LB.out; have := He.out; omega)).mono ?_
      rintro ee w1 ⟨rfl, hg1, hr2⟩
      go_wp2
      go_meet
      case rel => exact ⟨grown_trans hg hg1, by simpa using hr2⟩
    case rest =>
    clear hr1 hg
    obtain ⟨hg1, hr2⟩ := hcut
    obtain ⟨w1, rfl⟩ : ∃ w1, w1 = wc := ⟨_, rfl⟩
    clear HQ q
    go_upto_region 41 with fail
    go_cut [199] (fun v wx => (∃ q : Bool, v = .bool q ∧ q = decide (a' < r ∧ r < mid)) ∧ w1 = wx)
    case first => as_aux_lemma =>
     by_cases c1 : a' < r
     ·
      by_cases c2 : r < mid
      ·
       go_wp2
       go_meet
       case rel => exact ⟨⟨_, rfl, by simp [c1, c2]⟩, rfl⟩
      ·
       go_wp2
       go_meet
       case rel => exact ⟨⟨_, rfl, by simp [c2]⟩, rfl⟩
     ·
      go_wp2
      go_meet
      case rel => exact ⟨⟨_, rfl, by simp [c1]⟩, rfl⟩
    case rest =>
    obtain ⟨⟨q, rfl, hq⟩, rfl⟩ := hcut
    have HQ := Lib.hid hq; clear hq
    go_upto_if 199 with fail
    go_cut [] (fun wx => w.grownBy wx (some g) ∧ Hid (∃ M1 : List Int, IntRow wx g T (P ++ (M1 ++ (A.drop s ++ (B.drop e ++ S)))) ∧ M1.Perm (A.take s ++ B.take e) ∧ M1.Pairwise prec))
    case first => as_aux_lemma =>
     have sA : Hid ((A.take s).Pairwise prec) := List.Pairwise.sublist (List.take_sublist _ _) HSA.out
     have sB : Hid ((B.take e).Pairwise prec) := List.Pairwise.sublist (List.take_sublist _ _) HSB.out
     cases q
     ·
      have hz : Hid ((A.take s ++ B.take e).Pairwise prec) := by
       have h1 := of_decide_eq_false HQ.out.symm
       have := LA.out; have := LB.out; have := Hs.out; have := He.out; have := HA.out; have := HM.out
       rcases Nat.lt_or_ge a' r with h | h
       ·
        have h2 : B.take e = [] := List.length_eq_zero_iff.1 (by omega)
        rw [h2]; simpa [Hid] using sA.out
       ·
        have h2 : A.take s = [] := List.length_eq_zero_iff.1 (by omega)
        rw [h2]; simpa [Hid] using sB.out
      go_wp2
      go_meet
      case rel => exact ⟨hg1, _, by simpa using hr2, List.Perm.refl _, hz.out⟩
     ·
      have h1 := of_decide_eq_true HQ.out.symm
      go_wp2_with fail
      refine (IH.out (A.take s) (B.take e) (by have := LA.out; have := Hs.out; omega) (by have := LB.out; have := He.out; omega) (by have := LA.out; have := LB.out; have := Hs.out; have := He.out; have := HA.out; have := HM.out; have := HB.out; omega)
       _ _ _ P ((A.drop s ++ B.drop e) ++ S) w1 (HC.out.next hg1) (by have := LA.out; have := LB.out; have := HL.out; simp; omega) hr2 (by have := HA.out; omega) (by have := LA.out; have := Hs.out; have := HA.out; omega)
       (by have := LA.out; have := LB.out; have := Hs.out; have := He.out; have := HA.out; have := HM.out; omega) (fun x hx => HDA.out x (List.mem_of_mem_take hx)) (fun x hx => HDB.out x (List.mem_of_mem_take hx)) sA.out sB.out
       (fun u hu v hv => HO.out u (List.mem_of_mem_take hu) v (List.mem_of_mem_take hv))).mono ?_
      rintro ee w2 ⟨rfl, hg2, hM⟩
      go_wp2
      go_meet
      case rel => exact ⟨grown_trans hg1 hg2, by simpa [Hid] using hM⟩
    case rest =>
    clear hr2 hg1
    obtain ⟨hg2, hM⟩ := hcut
    obtain ⟨M1, hr3, p1, o1⟩ := hM.out
    clear hM
    obtain ⟨w2, rfl⟩ : ∃ w2, w2 = wc := ⟨_, rfl⟩
    clear HQ q
    have P1 := Lib.hid p1; have O1 := Lib.hid o1
    clear p1 o1
    have LM : Hid (M1.length = s + e) := by have h := P1.out.length_eq; rw [List.length_append] at h; have := LA.out; have := LB.out; show _ = _; omega
    have sA : Hid ((A.drop s).Pairwise prec) := List.Pairwise.sublist (List.drop_sublist _ _) HSA.out
    have sB : Hid ((B.drop e).Pairwise prec) := List.Pairwise.sublist (List.drop_sublist _ _) HSB.out
    by_cases c1 : mid < en ∧ en < b'
    ·
     as_aux_lemma =>
     obtain ⟨c1, c2⟩ := c1
     go_wp2_with fail
     refine (IH.out (A.drop s) (B.drop e) (by have := LA.out; have := Hs.out; have := HA.out; have := HM.out; omega) (by have := LB.out; have := He.out; have := HM.out; have := HB.out; omega) (by have := LA.out; have := LB.out; have := Hs.out; have := He.out; have := HA.out; have := HM.out; omega)
       _ _ _ (P ++ M1) S w2 (HC.out.next hg2) (by have := LA.out; have := LB.out; have := HL.out; have := LM.out; simp; omega) (by simpa using hr3) (by have := HA.out; have := LM.out; have := Hs.out; have := He.out; simp; omega) (by have := LM.out; have := LA.out; have := Hs.out; have := He.out; have := HA.out; have := HM.out; simp; omega)
       (by have := LM.out; have := LA.out; have := LB.out; have := Hs.out; have := He.out; have := HA.out; have := HM.out; have := HB.out; simp; omega) (fun x hx => HDA.out x (List.mem_of_mem_drop hx)) (fun x hx => HDB.out x (List.mem_of_mem_drop hx)) sA.out sB.out
       (fun u hu v hv => HO.out u (List.mem_of_mem_drop hu) v (List.mem_of_mem_drop hv))).mono ?_
     rintro ee w3 ⟨rfl, hg3, M2, hr4, p2, o2⟩
     go_wp2
     go_end0
     exact ⟨rfl, grown_trans hg2 hg3, M1 ++ M2, by simpa using hr4, merge_two CUT.out HSA.out HSB.out M1 M2 P1.out p2 O1.out o2⟩
    ·
     have hz : Hid ((A.drop s ++ B.drop e).Pairwise prec) := by
      have := LA.out; have := LB.out; have := Hs.out; have := He.out; have := HA.out; have := HM.out; have := HB.out
      rcases Nat.lt_or_ge mid en with h | h
      ·
       have h2 : B.drop e = [] := List.length_eq_zero_iff.1 (by omega)
       rw [h2]; simpa [Hid] using sA.out
      ·
       have h2 : A.drop s = [] := List.length_eq_zero_iff.1 (by omega)
       rw [h2]; simpa [Hid] using sB.out
     have FIN : Hid (IntRow w2 g T (P ++ ((M1 ++ (A.drop s ++ B.drop e)) ++ S))) := by simpa [Hid] using hr3
     have ME := Lib.hid (merge_two CUT.out HSA.out HSB.out M1 (A.drop s ++ B.drop e) P1.out (List.Perm.refl _) O1.out hz.out)
     by_cases c2 : mid < en
     ·
      have c3 : ¬ en < b' := fun h => c1 ⟨c2, h⟩
      clear c1
      go_wp2
      go_end0
      exact ⟨rfl, hg2, _, FIN.out, ME.out⟩
     ·
      clear c1
      go_wp2
      go_end0
      exact ⟨rfl, hg2, _, FIN.out, ME.out⟩
end Go.Proofs.YthabgljdndbphaaGreatDoor

namespace Go.Proofs.YthabgljdndbphaaGreatDoor
open Go.RowKit

theorem symMerge_any (f : Nat) (cap : Array Value) (cf : Int → Int → Int) (dom : Int → Prop) (prec : Int → Int → Prop) (g T c l : Nat)
  (hcf : ∀ (args : Array Value) (w : World), (callFunc f args).run Tryz.prog w = .ok (.enter f args) w)
  (htr : ∀ x y z, prec x y → prec y z → prec x z) (hD : l ≤ 4000) : ∀ (N : Nat) (A B : List Int), A.length + B.length ≤ N → 0 < A.length → 0 < B.length → SymMerge f cap cf dom prec g T c l A B := by
 intro N
 induction N with
 | zero => intro A B h hA _; omega
 | succ N ih =>
  intro A B h hA hB
  rcases Nat.lt_or_ge 1 A.length with h1 | h1
  ·
   rcases Nat.lt_or_ge 1 B.length with h2 | h2
   ·
    exact symMerge_gen f cap cf dom prec g T c l A B hcf htr hD h1 h2 (fun A' B' a b hs => ih A' B' (by omega) a b)
   ·
    obtain ⟨x, rfl⟩ := List.length_eq_one_iff.1 (show B.length = 1 by omega)
    intro a m b P S w hcmp hl hR ha hm hb hdA hdB hsA hsB hok
    exact symMerge_right f cap cf dom prec g T c l a m b P A S x w hcf hcmp htr (by simpa using hl) hD (by simpa using hR) ha hm (by simp at hb; omega) h1 hdA (hdB x (by simp)) hsA (fun u hu => hok u hu x (by simp))
  ·
   obtain ⟨x, rfl⟩ := List.length_eq_one_iff.1 (show A.length = 1 by omega)
   intro a m b P S w hcmp hl hR ha hm hb hdA hdB hsA hsB hok
   exact symMerge_left f cap cf dom prec g T c l a m b P B S x w hcf hcmp htr (by simpa using hl) hD (by simpa using hR) ha (by simpa using hm) (by simp at hb; omega) hB hdB (hdA x (by simp)) hsB (fun v hv => hok x (by simp) v hv)

set_option maxHeartbeats 400000 in
theorem insertion_none (f : Nat) (cap : Array Value) (sv : Value) (a : Nat) (ha : a ≤ 4000) (w : World) :
  Calls Tryz.prog 86 #[sv, .int .i64 a, .int .i64 a, .func (.func f) #[] cap] w fun e w' => e = .returned (.tuple #[]) ∧ w = w' := by
 go_enter Tryz.func86, Tryz.ntmps86
 go_wp2
 refine wp_loop_rounds 1 ?_
 rw [rounds_succ]
 have h : ¬ ((a : Int) + 1 < (a : Int)) := by omega
 go_wp2
 go_end0
 exact ⟨rfl, rfl⟩

/-- Two ranges in their first order. -/
def Cross (cf : Int → Int → Int) (prec : Int → Int → Prop) (A B : List Int) : Prop := ∀ u ∈ A, ∀ v ∈ B, Ok cf prec u v

/-- Sorted chunks in their first order. -/
structure Chunks (cf : Int → Int → Int) (prec : Int → Int → Prop) (dom : Int → Prop) (cs : List (List Int)) : Prop where
 sorted : ∀ c ∈ cs, c.Pairwise prec
 cross : cs.Pairwise (Cross cf prec)
 dom : ∀ c ∈ cs, ∀ x ∈ c, dom x

/-- Chunks of one length, but for the last, which may be shorter. -/
def Cut (bs : Nat) : List (List Int) → Prop
 | [] => True
 | c :: cs => 0 < c.length ∧ (if cs = [] then c.length ≤ bs else c.length = bs) ∧ Cut bs cs

theorem Chunks.append {cf : Int → Int → Int} {prec : Int → Int → Prop} {dom : Int → Prop} {xs ys : List (List Int)} (h : Chunks cf prec dom (xs ++ ys)) : Chunks cf prec dom xs ∧ Chunks cf prec dom ys ∧ ∀ a ∈ xs, ∀ b ∈ ys, Cross cf prec a b := by
 have hc := List.pairwise_append.1 h.cross
 exact ⟨⟨fun c hc' => h.sorted c (List.mem_append_left _ hc'), hc.1, fun c hc' => h.dom c (List.mem_append_left _ hc')⟩,
  ⟨fun c hc' => h.sorted c (List.mem_append_right _ hc'), hc.2.1, fun c hc' => h.dom c (List.mem_append_right _ hc')⟩, hc.2.2⟩

/-- Two neighbours merged. -/
theorem Chunks.merge {cf : Int → Int → Int} {prec : Int → Int → Prop} {dom : Int → Prop} {xs ys : List (List Int)} {A B M : List Int} (h : Chunks cf prec dom (xs ++ A :: B :: ys)) (hp : M.Perm (A ++ B)) (hM : M.Pairwise prec) :
  Chunks cf prec dom (xs ++ M :: ys) := by
 have hm : ∀ x, x ∈ M ↔ x ∈ A ∨ x ∈ B := fun x => by rw [hp.mem_iff, List.mem_append]
 have hc := h.cross
 rw [List.pairwise_append, List.pairwise_cons, List.pairwise_cons] at hc
 obtain ⟨c1, ⟨c2, c3, c4⟩, c5⟩ := hc
 refine ⟨fun c hc => ?_, ?_, fun c hc x hx => ?_⟩
 ·
  rcases List.mem_append.1 hc with hc | hc
  ·
   exact h.sorted c (by simp [hc])
  ·
   rcases List.mem_cons.1 hc with rfl | hc
   ·
    exact hM
   ·
    exact h.sorted c (by simp [hc])
 ·
  rw [List.pairwise_append, List.pairwise_cons]
  refine ⟨c1, ⟨fun b hb u hu v hv => ?_, c4⟩, fun a ha b hb => ?_⟩
  ·
   rcases (hm u).1 hu with hu | hu
   ·
    exact c2 b (by simp [hb]) u hu v hv
   ·
    exact c3 b hb u hu v hv
  ·
   rcases List.mem_cons.1 hb with rfl | hb
   ·
    intro u hu v hv
    rcases (hm v).1 hv with hv | hv
    ·
     exact c5 a ha A (by simp) u hu v hv
    ·
     exact c5 a ha B (by simp) u hu v hv
   ·
    exact c5 a ha b (by simp [hb])
 ·
  rcases List.mem_append.1 hc with hc | hc
  ·
   exact h.dom c (by simp [hc]) x hx
  ·
   rcases List.mem_cons.1 hc with rfl | hc
   ·
    rcases (hm x).1 hx with hx | hx
    ·
     exact h.dom A (by simp) x hx
    ·
     exact h.dom B (by simp) x hx
   ·
    exact h.dom c (by simp [hc]) x hx

theorem Cut.full {bs : Nat} {c d : List Int} {cs : List (List Int)} (h : Cut bs (c :: d :: cs)) : c.length = bs := by
 have := h.2.1; simpa using this

theorem Cut.le {bs : Nat} {c : List Int} {cs : List (List Int)} (h : Cut bs (c :: cs)) : c.length ≤ bs := by
 have := h.2.1
 split at this <;> omega

/-- Chunks of one length ahead of a cut. -/
theorem Cut.of_full {bs : Nat} (ds cs : List (List Int)) (hb : 0 < bs) (h : ∀ d ∈ ds, d.length = bs) (hc : Cut bs cs) : Cut bs (ds ++ cs) := by
 induction ds with
 | nil => exact hc
 | cons d ds ih =>
  have hd := h d (by simp)
  refine ⟨by omega, ?_, ih (fun x hx => h x (by simp [hx]))⟩
  split <;> omega


theorem Cut.one {bs : Nat} (cs : List (List Int)) (h : Cut bs cs) (hl : cs.flatten.length ≤ bs) : cs.length ≤ 1 := by
 match cs, h with
 | [], _ => simp
 | [c], _ => simp
 | c :: d :: cs, h =>
  exfalso
  have h1 := h.full
  have h2 := h.2.2.1
  simp at hl
  omega
end Go.Proofs.YthabgljdndbphaaGreatDoor
