/- insertionSortCmpFunc at []int. -/
import Derived.Test.YtgpmhaeiccljaaaDoorSort1
import Derived.Shelf.Abstract
namespace Go.Proofs.YtgpmhaeiccljaaaDoor
open Go.RowKit

/-- The comparison's contract: it draws at most. -/
def CmpAt (f : Nat) (cap : Array Value) (cf : Int → Int → Int) (dom : Int → Prop) (g : Nat) (w : World) : Prop :=
  ∀ x y wr, dom x → dom y → w.grownBy wr (some g) →
    Calls Tryd.prog f (#[.int .i64 x, .int .i64 y] ++ cap) wr fun e w' => e = .returned (.int .i64 (cf x y)) ∧ ∃ q, w' = wr.drewN q

theorem CmpAt.next {f : Nat} {cap : Array Value} {cf : Int → Int → Int} {dom : Int → Prop} {g : Nat} {w w1 : World} (h : CmpAt f cap cf dom g w) (hg : w.grownBy w1 (some g)) : CmpAt f cap cf dom g w1 :=
  fun x y wr hx hy hgr => h x y wr hx hy (grown_trans hg hgr)

/-- u stands ahead of v: what the comparison of v with u says of the order. -/
def Ok (cf : Int → Int → Int) (prec : Int → Int → Prop) (u v : Int) : Prop := (cf v u < 0 → prec v u) ∧ (¬ cf v u < 0 → prec u v)

theorem ix_mid (A : List Int) (x : Int) (B : List Int) : ix (A ++ x :: B) A.length = x := by
  simp [ix, List.getD_eq_getElem?_getD]

theorem swp_mid (P X Y : List Int) (u x : Int) (q : Nat) (hq : q = P.length + X.length) :
    swp (P ++ (X ++ u :: x :: Y)) (q + 1) q = P ++ (X ++ x :: u :: Y) := by
  subst hq
  apply list_ext_ix
  · rw [swp_length]; simp
  · intro k hk
    rw [swp_length] at hk
    simp only [List.length_append, List.length_cons] at hk
    have e1 : ix (P ++ (X ++ u :: x :: Y)) (P.length + X.length) = u := by
      have := ix_mid (P ++ X) u (x :: Y); simpa using this
    have e2 : ix (P ++ (X ++ u :: x :: Y)) (P.length + X.length + 1) = x := by
      have := ix_mid (P ++ X ++ [u]) x Y; simpa [Nat.add_assoc] using this
    have e3 : ix (P ++ (X ++ x :: u :: Y)) (P.length + X.length) = x := by
      have := ix_mid (P ++ X) x (u :: Y); simpa using this
    have e4 : ix (P ++ (X ++ x :: u :: Y)) (P.length + X.length + 1) = u := by
      have := ix_mid (P ++ X ++ [x]) u Y; simpa [Nat.add_assoc] using this
    rw [ix_swp _ _ _ _ (by simp; omega) (by simp)]
    by_cases h1 : P.length + X.length = k
    · rw [if_pos h1, ← h1, e2, e3]
    · rw [if_neg h1]
      by_cases h2 : P.length + X.length + 1 = k
      · rw [if_pos h2, ← h2, e1, e4]
      · rw [if_neg h2]
        have h4 : ∀ a b : Int, ix (a :: b :: Y) (k - P.length - X.length) = if k < P.length + X.length then ix (a :: b :: Y) 0 else ix Y (k - P.length - X.length - 2) := fun a b => by
          by_cases h3 : k < P.length + X.length
          · rw [if_pos h3, show k - P.length - X.length = 0 from by omega]
          · rw [if_neg h3]
            obtain ⟨n, hn⟩ : ∃ n, k - P.length - X.length = n + 2 := ⟨k - P.length - X.length - 2, by omega⟩
            rw [hn]; simp [ix, List.getD_eq_getElem?_getD]
        simp only [ix_append]
        by_cases h5 : k < P.length
        · rw [if_pos h5, if_pos h5]
        · rw [if_neg h5, if_neg h5]
          by_cases h6 : k - P.length < X.length
          · rw [if_pos h6, if_pos h6]
          · rw [if_neg h6, if_neg h6, h4, h4, if_neg (by omega), if_neg (by omega)]

theorem insert_sorted {prec : Int → Int → Prop} (htr : ∀ x y z, prec x y → prec y z → prec x z) (X Y : List Int) (x : Int) (h : (X ++ Y).Pairwise prec) (hY : ∀ y ∈ Y, prec x y)
    (hX : ∀ u ∈ X, prec u x) : (X ++ x :: Y).Pairwise prec := by
  rw [List.pairwise_append] at h ⊢
  refine ⟨h.1, List.pairwise_cons.2 ⟨hY, h.2.1⟩, fun u hu v hv => ?_⟩
  rcases List.mem_cons.1 hv with rfl | hv
  · exact hX u hu
  · exact htr u x v (hX u hu) (hY v hv)

theorem last_sorted {prec : Int → Int → Prop} (htr : ∀ x y z, prec x y → prec y z → prec x z) (X : List Int) (u x : Int) (Y : List Int) (h : (X ++ [u] ++ Y).Pairwise prec) (hu : prec u x) : ∀ v ∈ X ++ [u], prec v x := by
  intro v hv
  rcases List.mem_append.1 hv with hv | hv
  · rw [List.append_assoc, List.pairwise_append] at h
    exact htr v u x (h.2.2 v hv u (by simp)) hu
  · rw [List.mem_singleton.1 hv]; exact hu

set_option maxRecDepth 10000 in
set_option maxHeartbeats 2000000 in
theorem insertion_any (f : Nat) (cap : Array Value) (cf : Int → Int → Int) (dom : Int → Prop) (prec : Int → Int → Prop) (g T c l : Nat) (a b : Int) (P A S : List Int) (w : World)
    (hcf : ∀ (args : Array Value) (w : World), (callFunc f args).run Tryd.prog w = .ok (.enter f args) w)
    (hcmp : CmpAt f cap cf dom g w) (htr : ∀ x y z, prec x y → prec y z → prec x z)
    (hl : l = (P ++ (A ++ S)).length) (hD : l ≤ 4000) (hR : IntRow w g T (P ++ (A ++ S))) (ha : a = P.length) (hb : b = P.length + A.length) (hA : 0 < A.length)
    (hdom : ∀ x ∈ A, dom x) (hok : A.Pairwise (Ok cf prec)) :
    Calls Tryd.prog 68 #[.slice (some ⟨g, 0, none⟩) l c, .int .i64 a, .int .i64 b, .func (.func f) #[] cap] w
      fun e w' => e = .returned (.tuple #[]) ∧ w.grownBy w' (some g) ∧ ∃ A', IntRow w' g T (P ++ (A' ++ S)) ∧ A'.Perm A ∧ A'.Pairwise prec := by
  have hl' : l = P.length + (A.length + S.length) := by simpa using hl
  have b1 : 0 ≤ a ∧ a ≤ 4000 := by omega
  have b2 : a < b ∧ b ≤ 4000 := by omega
  have HA := Lib.hid ha; have HB := Lib.hid hb; have HL := Lib.hid hl'; have HO := Lib.hid hok; have HT := Lib.hid htr; have HDM := Lib.hid hdom
  have HC := Lib.hid hcmp
  clear ha hb hl hl' hok htr hdom hcmp
  go_enter Tryd.func68, Tryd.ntmps68
  go_wp2
  go_loopw [8, 9] (fun vi _ wr => ∃ (i : Nat) (A1 A2 A1' : List Int), vi = .int .i64 i ∧ (i : Int) ≤ b ∧ Hid (A = A1 ++ A2) ∧ Hid (i = P.length + A1.length) ∧ Hid (A1'.Perm A1 ∧ A1'.Pairwise prec) ∧ w.grownBy wr (some g) ∧ IntRow wr g T (P ++ (A1' ++ (A2 ++ S))))
    (fun vi _ _ => (b - intOf vi).toNat)
  case atStart =>
    cases hA' : A with
    | nil => simp [hA'] at hA
    | cons x A2 => exact ⟨P.length + 1, [x], A2, [x], by rw [HA.out]; rfl, by have := HA.out; omega, rfl, rfl, ⟨List.Perm.refl _, by simp⟩, grown_refl _ _, by rw [hA'] at hR; simpa using hR⟩
  case round =>
    obtain ⟨i, A1, A2, A1', rfl, hib, H1, H2, H3, hg, hr⟩ := hrel
    clear hR
    by_cases hlt : (i : Int) < b
    · obtain ⟨x, A3, hA2⟩ : ∃ x A3, A2 = x :: A3 := by
        cases hA2 : A2 with
        | nil => exfalso; have h1 := H1.out; have h2 := H2.out; have h3 := HB.out; rw [hA2] at h1; simp at h1; subst h1; omega
        | cons x A3 => exact ⟨x, A3, rfl⟩
      have hr0 : IntRow wr g T (P ++ (A1' ++ x :: (A3 ++ S))) := by rw [hA2] at hr; simpa using hr
      have hle : A1'.length = A1.length := H3.out.1.length_eq
      have HLE := Lib.hid hle
      have HX : Hid (∀ u ∈ A1', Ok cf prec u x) := by
        intro u hu
        have h0 := HO.out
        rw [H1.out, hA2, List.pairwise_append] at h0
        exact h0.2.2 u (H3.out.1.mem_iff.1 hu) x (by simp)
      have HD1 : Hid (∀ u ∈ A1', dom u) := fun u hu => HDM.out u (by rw [H1.out]; exact List.mem_append_left _ (H3.out.1.mem_iff.1 hu))
      have HD2 : Hid (dom x) := HDM.out x (by rw [H1.out, hA2]; simp)
      have hlen : Hid (l = P.length + (A1'.length + (1 + (A3.length + S.length)))) := by
        have h1 := HL.out; have h2 := congrArg List.length H1.out; rw [hA2] at h2; simp at h2; show _ = _; omega
      have HA2 := Lib.hid hA2
      have hi4 : i ≤ 4000 := by have := hlen.out; have := H2.out; omega
      clear hA2 hle hr
      go_wp2
      obtain ⟨wo, rfl⟩ : ∃ wo : World, wo = wr := ⟨_, rfl⟩
      go_loopw [9] (fun vj wr => ∃ (j : Nat) (X Y : List Int), vj = .int .i64 j ∧ j ≤ i ∧ a ≤ j ∧ Hid (j = P.length + X.length) ∧ Hid (A1' = X ++ Y) ∧ Hid (∀ y ∈ Y, prec x y) ∧ w.grownBy wr (some g) ∧ IntRow wr g T (P ++ (X ++ x :: (Y ++ (A3 ++ S)))))
        (fun vj _ => (intOf vj).toNat)
      case atStart => exact ⟨i, A1', [], rfl, Nat.le_refl _, by have := H2.out; have := HA.out; omega, by have := H2.out; have := HLE.out; show _ = _; omega, by simp [Hid], by simp [Hid], hg, hr0⟩
      case round =>
        clear hr0
        obtain ⟨j, X, Y, rfl, hji, haj, K1, K2, K3, hg2, hr⟩ := hrel
        by_cases hja : a < j
        · obtain ⟨X', u, hX⟩ : ∃ X' u, X = X' ++ [u] := by
            rcases List.eq_nil_or_concat X with h | ⟨X', u, h⟩
            · exfalso; have h1 := K1.out; have h2 := HA.out; rw [h] at h1; simp at h1; omega
            · exact ⟨X', u, by simpa using h⟩
          obtain ⟨q, rfl⟩ : ∃ q, j = q + 1 := ⟨j - 1, by have := HA.out; omega⟩
          have hq : q = P.length + X'.length := by have h1 := K1.out; rw [hX] at h1; simp at h1; omega
          have hr1 : IntRow wr g T (P ++ (X' ++ u :: x :: (Y ++ (A3 ++ S)))) := by rw [hX] at hr; simpa using hr
          have hlq : q + 1 < (P ++ (X' ++ u :: x :: (Y ++ (A3 ++ S)))).length := by simp; omega
          have e1 : ix (P ++ (X' ++ u :: x :: (Y ++ (A3 ++ S)))) q = u := by
            have := ix_mid (P ++ X') u (x :: (Y ++ (A3 ++ S))); rw [hq]; simpa using this
          have e2 : ix (P ++ (X' ++ u :: x :: (Y ++ (A3 ++ S)))) (q + 1) = x := by
            have := ix_mid (P ++ X' ++ [u]) x (Y ++ (A3 ++ S)); rw [hq]; simpa [Nat.add_assoc] using this
          have c1 := hr1.cell q (by omega)
          have c2 := hr1.cell (q + 1) (by omega)
          have f1 := hr1.free q
          have f2 := hr1.free (q + 1)
          have HW := Lib.hid (hr1.swp (q + 1) q (by omega) (by omega))
          rw [e1] at c1; rw [e2] at c2
          have HW2 : Hid (IntRow ((wr.setCell ⟨g, q + 1, none⟩ (.int .i64 u)).setCell ⟨g, q, none⟩ (.int .i64 x)) g T (P ++ (X' ++ x :: u :: (Y ++ (A3 ++ S))))) := by
            have := HW.out; rw [e1, e2, swp_mid P X' _ u x q hq] at this; exact this
          have hu : u ∈ A1' := by rw [K2.out, hX]; simp
          have HC2 : Hid (∀ n, Calls Tryd.prog f (#[.int .i64 x, .int .i64 u] ++ cap) (wr.drewN n) fun e w' => e = .returned (.int .i64 (cf x u)) ∧ ∃ q, w' = (wr.drewN n).drewN q) :=
            fun n => HC.out x u _ HD2.out (HD1.out u hu) (grown_trans hg2 (grown_drew _ _ _))
          have HU := Lib.hid (HX.out u hu)
          have HXq := Lib.hid hX; have HQ := Lib.hid hq
          clear HW hX hq hr1 e1 e2 hlq hu
          have hr0 := Lib.hid hr; clear hr
          have t1 : (a < (q : Int) + 1) := by omega
          have t2 : (q : Int) + 1 < (l : Int) := by have := hlen.out; have := HQ.out; have h3 := congrArg List.length K2.out; rw [HXq.out] at h3; simp at h3; omega
          by_cases hlv : cf x u < 0
          · clear hr0
            go_wp2_with fail
            go_quiet (exact Calls.quiet_of (HC2.out _))
            go_wp2
            go_region
            go_wp2
            go_roundw
            case rel => exact ⟨q, X', u :: Y, rfl, by omega, by omega, HQ.out, (by show _ = _; rw [K2.out, HXq.out]; simp), (by intro y hy; rcases List.mem_cons.1 hy with rfl | hy; exact HU.out.1 hlv; exact K3.out y hy), grown_trans hg2 (grown_trans (grown_drew _ _ _) (grown_trans (grown_setCell _ _ _ _) (grown_setCell _ _ _ _))), HW2.out⟩
            case measure => simp [intOf]
          · have FIN : Hid ((X ++ x :: Y).Perm (A1 ++ [x]) ∧ (X ++ x :: Y).Pairwise prec) := by
              have h1 := H3.out; rw [K2.out] at h1
              refine ⟨(List.perm_middle.trans ((h1.1.cons x).trans (List.perm_append_singleton x A1).symm)), insert_sorted HT.out X Y x h1.2 K3.out ?_⟩
              rw [HXq.out] at h1 ⊢
              exact last_sorted HT.out X' u x Y h1.2 (HU.out.2 hlv)
            go_wp2_with fail
            go_quiet (exact Calls.quiet_of (HC2.out _))
            go_wp2
            go_roundw
            case rel => exact ⟨i + 1, A1 ++ [x], A3, X ++ x :: Y, by go_num, by omega, by show _ = _; rw [H1.out, HA2.out]; simp, by have := H2.out; simp [Hid]; omega, FIN.out, grown_trans hg2 (grown_drew _ _ _), IntRow.drewN (by simpa using hr0.out) _⟩
            case measure => simp [intOf]; omega
        · have hd : decide (a < (j : Int)) = false := by simp; omega
          have hX : X = [] := by have h1 := K1.out; have h2 := HA.out; exact List.length_eq_zero_iff.1 (by omega)
          have FIN : Hid ((X ++ x :: Y).Perm (A1 ++ [x]) ∧ (X ++ x :: Y).Pairwise prec) := by
            have h1 := H3.out; rw [K2.out] at h1
            exact ⟨(List.perm_middle.trans ((h1.1.cons x).trans (List.perm_append_singleton x A1).symm)), insert_sorted HT.out X Y x h1.2 K3.out (by rw [hX]; simp)⟩
          clear hX
          go_wp2_with fail
          go_quiet (fail)
          go_wp2
          go_roundw
          case rel => exact ⟨i + 1, A1 ++ [x], A3, X ++ x :: Y, by go_num, by omega, by show _ = _; rw [H1.out, HA2.out]; simp, by have := H2.out; simp [Hid]; omega, FIN.out, grown_trans hg2 (grown_drew _ _ _), IntRow.drewN (by simpa using hr) _⟩
          case measure => simp [intOf]; omega

    · go_wp2
      go_end0
      have hA2 : A2 = [] := by
        have h1 := congrArg List.length H1.out; have h2 := H2.out; have h3 := HB.out
        simp at h1
        exact List.length_eq_zero_iff.1 (by omega)
      exact ⟨rfl, hg, A1', by rw [hA2] at hr; simpa using hr, by rw [H1.out, hA2]; simpa using H3.out.1, H3.out.2⟩
end Go.Proofs.YtgpmhaeiccljaaaDoor
