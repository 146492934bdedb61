/- swapRangeCmpFunc and rotateCmpFunc at []int; insertionSortCmpFunc at []int; symMergeCmpFunc at []int: a range of one element on the left. -/
import Derived.Test.YthabgljdndbphaaGreatDoorQPKM01
import Derived.Test.YthabgljdndbphaaGreatDoorProg
import Derived.Shelf.Abstract
import Derived.WalkLawsBesides

set_option linter.unusedVariables false
set_option linter.unusedSimpArgs false
namespace Go.Proofs.YthabgljdndbphaaGreatDoor
open Go.RowKit

/-- The exchange of two ranges, from the front, k steps done. -/
def swapN (D : List Int) (a b : Nat) : Nat → List Int
 | 0 => D
 | k + 1 => swp (swapN D a b k) (a + k) (b + k)

theorem swapN_length (D : List Int) (a b k : Nat) : (swapN D a b k).length = D.length := by
 induction k with
 | zero => rfl
 | succ k ih => rw [swapN, swp_length, ih]

theorem ix_swapN (D : List Int) (a b n k : Nat) (hab : a + n ≤ b) (hbn : b + n ≤ D.length) :
  ix (swapN D a b n) k = if a ≤ k ∧ k < a + n then ix D (k - a + b) else if b ≤ k ∧ k < b + n then ix D (k - b + a) else ix D k := by
 induction n generalizing k with
 | zero =>
  rw [if_neg (by omega), if_neg (by omega)]; rfl
 | succ n ih =>
  have hl := swapN_length D a b n
  rw [swapN, ix_swp _ _ _ _ (by omega) (by omega), ih _ (by omega) (by omega), ih _ (by omega) (by omega), ih _ (by omega) (by omega)]
  by_cases h1 : b + n = k
  ·
   rw [if_pos h1, if_neg (by omega), if_neg (by omega), if_neg (by omega), if_pos (by omega), show k - b + a = a + n from by omega]
  ·
   rw [if_neg h1]
   by_cases h2 : a + n = k
   ·
    rw [if_pos h2, if_neg (by omega), if_neg (by omega), if_pos (by omega), show k - a + b = b + n from by omega]
   ·
    rw [if_neg h2]
    by_cases h3 : a ≤ k ∧ k < a + n
    ·
     rw [if_pos h3, if_pos (by omega)]
    ·
     rw [if_neg h3]
     by_cases h4 : b ≤ k ∧ k < b + n
     ·
      rw [if_pos h4, if_neg (by omega), if_pos (by omega)]
     ·
      rw [if_neg h4, if_neg (by omega), if_neg (by omega)]

theorem swapN_parts (P X Y Z S : List Int) (hXZ : X.length = Z.length) :
  swapN (P ++ (X ++ (Y ++ (Z ++ S)))) P.length (P.length + X.length + Y.length) X.length = P ++ (Z ++ (Y ++ (X ++ S))) := by
 apply list_ext_ix
 ·
  rw [swapN_length]; simp; omega
 ·
  intro k hk
  rw [swapN_length] at hk
  simp only [List.length_append] at hk
  rw [ix_swapN _ _ _ _ _ (by omega) (by simp; omega)]
  simp only [ix_append]
  by_cases h1 : k < P.length
  ·
   simp [h1, show ¬ (P.length ≤ k) from by omega, show ¬ (P.length + X.length + Y.length ≤ k) from by omega]
  ·
   by_cases h2 : k < P.length + X.length
   ·
    rw [if_pos (by omega)]
    repeat (first | rw [if_neg (by omega)] | rw [if_pos (by omega)])
    congr 1; omega
   ·
    rw [if_neg (by omega)]
    by_cases h3 : P.length + X.length + Y.length ≤ k ∧ k < P.length + X.length + Y.length + X.length
    ·
     rw [if_pos h3]
     repeat (first | rw [if_neg (by omega)] | rw [if_pos (by omega)])
     congr 1; omega
    ·
     rw [if_neg h3]
     by_cases h4 : k < P.length + X.length + Y.length
     ·
      repeat (first | rw [if_neg (by omega)] | rw [if_pos (by omega)])
      congr 1; omega
     ·
      repeat (first | rw [if_neg (by omega)] | rw [if_pos (by omega)])
      congr 1; omega

set_option maxHeartbeats 400000 in
theorem swapRange_any (f : Nat) (cap : Array Value) (g T c a b n : Nat) (D : List Int) (w : World)
  (hR : IntRow w g T D) (hab : a + n ≤ b) (hbn : b + n ≤ D.length) (hD : D.length ≤ 4000) :
  Calls Tryz.prog 107 #[.slice (some ⟨g, 0, none⟩) D.length c, .int .i64 a, .int .i64 b, .int .i64 n, .func (.func f) #[] cap] w
   fun e w' => e = .returned (.tuple #[]) ∧ w.grownBy w' (some g) ∧ IntRow w' g T (swapN D a b n) := by
 go_enter Tryz.func107, Tryz.ntmps107
 go_wp2
 go_loopw [10] (fun k wr => ∃ i : Nat, i ≤ n ∧ k = .int .i64 i ∧ w.grownBy wr (some g) ∧ IntRow wr g T (swapN D a b i))
  (fun k _ => n - (intOf k).toNat)
 case atStart => exact ⟨0, Nat.zero_le _, rfl, grown_refl _ _, hR⟩
 case round =>
  obtain ⟨i, hi, rfl, hg, hr⟩ := hrel
  by_cases hlt : i < n
  ·
   have hl := swapN_length D a b i
   have c1 := hr.cell (a + i) (by omega)
   have c2 := hr.cell (b + i) (by omega)
   have f1 := hr.free (a + i)
   have f2 := hr.free (b + i)
   have HN := Lib.hid (hr.swp (a + i) (b + i) (by omega) (by omega))
   have HL := Lib.hid hl
   clear hr hl
   generalize ix (swapN D a b i) (a + i) = x at *
   generalize ix (swapN D a b i) (b + i) = y at *
   go_wp2_with fail
   go_region
   go_wp2
   go_roundw
   case rel => exact ⟨i + 1, by omega, by go_num, grown_trans hg (grown_trans (grown_setCell _ _ _ _) (grown_trans (grown_setCell _ _ _ _) (grown_drew1 _ _))), HN.out⟩
   case measure => simp [intOf]; omega
  ·
   go_wp2
   go_end0
   obtain rfl : i = n := by omega
   exact ⟨rfl, hg, hr⟩
/-- The exchange of two ranges of the same length, by parts. -/
theorem swapRange_parts (f : Nat) (cap : Array Value) (g T c : Nat) (a b n : Int) (l : Nat) (P X Y Z S : List Int) (w : World) (hl : l = (P ++ (X ++ (Y ++ (Z ++ S)))).length)
  (hR : IntRow w g T (P ++ (X ++ (Y ++ (Z ++ S))))) (hXZ : X.length = Z.length) (ha : a = P.length) (hb : b = P.length + X.length + Y.length) (hn : n = X.length) (hD : (P ++ (X ++ (Y ++ (Z ++ S)))).length ≤ 4000) :
  Calls Tryz.prog 107 #[.slice (some ⟨g, 0, none⟩) l c, .int .i64 a, .int .i64 b, .int .i64 n, .func (.func f) #[] cap] w
   fun e w' => e = .returned (.tuple #[]) ∧ w.grownBy w' (some g) ∧ IntRow w' g T (P ++ (Z ++ (Y ++ (X ++ S)))) := by
 have h := swapRange_any f cap g T c P.length (P.length + X.length + Y.length) X.length _ w hR (by omega) (by simp; omega) hD
 rw [swapN_parts P X Y Z S hXZ] at h
 rw [ha, hb, hn, hl]
 simpa using h

set_option maxHeartbeats 1000000 in
theorem rotate_any (f : Nat) (cap : Array Value) (g T c l : Nat) (a m b : Int) (P U V S : List Int) (w : World) (hl : l = (P ++ (U ++ (V ++ S))).length) (hD : l ≤ 4000)
  (hR : IntRow w g T (P ++ (U ++ (V ++ S)))) (ha : a = P.length) (hm : m = P.length + U.length) (hb : b = P.length + U.length + V.length) (hU : 0 < U.length) (hV : 0 < V.length) :
  Calls Tryz.prog 94 #[.slice (some ⟨g, 0, none⟩) l c, .int .i64 a, .int .i64 m, .int .i64 b, .func (.func f) #[] cap] w
   fun e w' => e = .returned (.tuple #[]) ∧ w.grownBy w' (some g) ∧ IntRow w' g T (P ++ (V ++ (U ++ S))) := by
 have hl' : l = P.length + (U.length + (V.length + S.length)) := by simpa using hl
 have b1 : 0 ≤ a ∧ a ≤ 4000 := by omega
 have b2 : a ≤ m ∧ m ≤ 4000 := by omega
 have b3 : m ≤ b ∧ b ≤ 4000 := by omega
 obtain ⟨u, hu⟩ : ∃ u : Nat, u = U.length := ⟨_, rfl⟩
 obtain ⟨v, hv⟩ : ∃ v : Nat, v = V.length := ⟨_, rfl⟩
 have HA := Lib.hid ha; have HM := Lib.hid hm; have HB := Lib.hid hb; have HL := Lib.hid hl; have HL' := Lib.hid hl'
 have e1 : Hid (m - a = u) := by show _ = _; omega
 have e2 : Hid (b - m = v) := by show _ = _; omega
 have HU := Lib.hid hu; have HV := Lib.hid hv
 have hu0 : 0 < u := by omega
 have hv0 : 0 < v := by omega
 clear ha hm hb hl hl' hu hv hU hV
 go_enter Tryz.func94, Tryz.ntmps94
 go_wp2
 go_loopw [10, 11] (fun i j wr => ∃ L U' V' R : List Int, i = .int .i64 U'.length ∧ j = .int .i64 V'.length ∧ 0 < U'.length ∧ 0 < V'.length ∧ Hid (L.length + U'.length = P.length + U.length) ∧
   Hid ((L ++ (U' ++ (V' ++ R))).length = l) ∧ Hid (L ++ (V' ++ (U' ++ R)) = P ++ (V ++ (U ++ S))) ∧ w.grownBy wr (some g) ∧ IntRow wr g T (L ++ (U' ++ (V' ++ R))))
  (fun i j _ => (intOf i).toNat + (intOf j).toNat)
 case atStart => exact ⟨P, U, V, S, by rw [e1.out, HU.out], by rw [e2.out, HV.out], by rw [← HU.out]; exact hu0, by rw [← HV.out]; exact hv0, rfl, HL.out.symm, rfl, grown_refl _ _, hR⟩
 case round =>
  obtain ⟨L, U', V', R, rfl, rfl, hU', hV', H1, H2, H3, hg, hr⟩ := hrel
  have hlen : Hid (L.length + (U'.length + (V'.length + R.length)) = l) := by have := H2.out; simpa [Hid] using this
  have b4 : U'.length ≤ 4000 := by have := hlen.out; omega
  have b5 : V'.length ≤ 4000 := by have := hlen.out; omega
  have b6 : (U'.length : Int) ≤ m := by have := hlen.out; have := H1.out; have := HM.out; omega
  clear hR
  rcases Nat.lt_trichotomy U'.length V'.length with h | h | h
  ·
   have t1 : ((U'.length : Int) != (V'.length : Int)) = true := by rw [bne_iff_ne]; omega
   obtain ⟨Y, Z, hV2, hZ⟩ : ∃ Y Z : List Int, V' = Y ++ Z ∧ Z.length = U'.length := ⟨V'.take (V'.length - U'.length), V'.drop (V'.length - U'.length), (List.take_append_drop _ _).symm, by simp; omega⟩
   have hYl : V'.length = Y.length + Z.length := by rw [hV2]; simp
   have hY : 0 < Y.length := by omega
   have hyz : Hid ((V'.length : Int) - (U'.length : Int) = Y.length) := by show _ = _; omega
   have hr1 : IntRow wr g T (L ++ (U' ++ (Y ++ (Z ++ R)))) := by rw [hV2] at hr; simpa using hr
   have hlen1 : Hid (l = (L ++ (U' ++ (Y ++ (Z ++ R)))).length) := by have := hlen.out; simp [Hid]; omega
   have H3' : Hid (L ++ (Y ++ (Z ++ (U' ++ R))) = P ++ (V ++ (U ++ S))) := by have := H3.out; rw [hV2] at this; simpa [Hid] using this
   have HZ := Lib.hid hZ; have HYl := Lib.hid hYl
   clear hZ hYl hV2 hr
   go_wp2_with fail
   refine (swapRange_parts f cap g T c _ _ _ l L U' Y Z R wr hlen1.out hr1 HZ.out.symm (by have := HM.out; have := H1.out; omega) (by have := HM.out; have := H1.out; have := HZ.out; have := HYl.out; omega) rfl (by have := hlen1.out; omega)).mono ?_
   rintro e w1 ⟨rfl, hg1, hr1⟩
   go_wp2
   go_roundw
   case rel => exact ⟨L, Z, Y, U' ++ R, by rw [HZ.out], by rw [hyz.out], by rw [HZ.out]; exact hU', hY, by rw [HZ.out]; exact H1.out, by have h1 := hlen1.out; have h2 := HZ.out; simp [Hid] at h1 h2 ⊢; omega, by have := H3'.out; simpa [Hid] using this, grown_trans hg hg1, hr1⟩
   case measure => have := hyz.out; simp only [intOf]; omega
  ·
   have t1 : ((U'.length : Int) != (V'.length : Int)) = false := by rw [bne_eq_false_iff_eq]; omega
   have hr1 : IntRow wr g T (L ++ (U' ++ ([] ++ (V' ++ R)))) := hr
   have HE := Lib.hid h; clear h hr
   go_wp2_with fail
   refine (swapRange_parts f cap g T c _ _ _ l L U' [] V' R wr (by have := H2.out; simp at *; omega) hr1 HE.out (by have := HM.out; have := H1.out; omega) (by have := HM.out; have := H1.out; simp; omega) rfl (by have := H2.out; simp at *; omega)).mono ?_
   rintro e w1 ⟨rfl, hg1, hr1⟩
   go_wp2
   go_end0
   exact ⟨rfl, grown_trans hg hg1, by have h3 := H3.out; rw [← h3]; simpa using hr1⟩
  ·
   have t1 : ((U'.length : Int) != (V'.length : Int)) = true := by rw [bne_iff_ne]; omega
   obtain ⟨X, Y, hU2, hX⟩ : ∃ X Y : List Int, U' = X ++ Y ∧ X.length = V'.length := ⟨U'.take V'.length, U'.drop V'.length, (List.take_append_drop _ _).symm, by simp; omega⟩
   have hYl : U'.length = X.length + Y.length := by rw [hU2]; simp
   have hY : 0 < Y.length := by omega
   have hxy : Hid ((U'.length : Int) - (V'.length : Int) = Y.length) := by show _ = _; omega
   have hr1 : IntRow wr g T (L ++ (X ++ (Y ++ (V' ++ R)))) := by rw [hU2] at hr; simpa using hr
   have hlen1 : Hid (l = (L ++ (X ++ (Y ++ (V' ++ R)))).length) := by have := hlen.out; simp [Hid]; omega
   have H3' : Hid (L ++ (V' ++ (X ++ (Y ++ R))) = P ++ (V ++ (U ++ S))) := by have := H3.out; rw [hU2] at this; simpa [Hid] using this
   have HX := Lib.hid hX; have HYl := Lib.hid hYl
   clear hX hYl hU2 hr
   go_wp2_with fail
   refine (swapRange_parts f cap g T c _ _ _ l L X Y V' R wr hlen1.out hr1 HX.out (by have := HM.out; have := H1.out; have := HYl.out; omega) (by have := HM.out; have := H1.out; have := HYl.out; omega) (by rw [HX.out]) (by have := hlen1.out; omega)).mono ?_
   rintro e w1 ⟨rfl, hg1, hr1⟩
   go_wp2
   go_roundw
   case rel => exact ⟨L ++ V', Y, X, R, by rw [hxy.out], by rw [HX.out], hY, by rw [HX.out]; exact hV', by have := H1.out; have := HX.out; have := HYl.out; simp [Hid]; omega, by have := hlen1.out; have := HX.out; simp [Hid] at *; omega, by have := H3'.out; simpa [Hid] using this, grown_trans hg hg1, by simpa using hr1⟩
   case measure => have := hxy.out; simp only [intOf]; omega
end Go.Proofs.YthabgljdndbphaaGreatDoor

namespace Go.Proofs.YthabgljdndbphaaGreatDoor
open Go.RowKit

/-- The comparison's contract: it draws at most. -/
def CmpAt (f : Nat) (cap : Array Value) (cf : Int → Int → Int) (dom : Int → Prop) (g : Nat) (w : World) : Prop :=
 ∀ x y wr, dom x → dom y → w.grownBy wr (some g) →
  Calls Tryz.prog f (#[.int .i64 x, .int .i64 y] ++ cap) wr fun e w' => e = .returned (.int .i64 (cf x y)) ∧ ∃ q, w' = wr.drewN q

theorem CmpAt.next {f : Nat} {cap : Array Value} {cf : Int → Int → Int} {dom : Int → Prop} {g : Nat} {w w1 : World} (h : CmpAt f cap cf dom g w) (hg : w.grownBy w1 (some g)) : CmpAt f cap cf dom g w1 :=
 fun x y wr hx hy hgr => h x y wr hx hy (grown_trans hg hgr)

/-- u stands ahead of v: what the comparison of v with u says of the order. -/
def Ok (cf : Int → Int → Int) (prec : Int → Int → Prop) (u v : Int) : Prop := (cf v u < 0 → prec v u) ∧ (¬ cf v u < 0 → prec u v)

theorem ix_mid (A : List Int) (x : Int) (B : List Int) : ix (A ++ x :: B) A.length = x := by
 simp [ix, List.getD_eq_getElem?_getD]

theorem swp_mid (P X Y : List Int) (u x : Int) (q : Nat) (hq : q = P.length + X.length) :
  swp (P ++ (X ++ u :: x :: Y)) (q + 1) q = P ++ (X ++ x :: u :: Y) := by
 subst hq
 apply list_ext_ix
 ·
  rw [swp_length]; simp
 ·
  intro k hk
  rw [swp_length] at hk
  simp only [List.length_append, List.length_cons] at hk
  have e1 : ix (P ++ (X ++ u :: x :: Y)) (P.length + X.length) = u := by
   have := ix_mid (P ++ X) u (x :: Y); simpa using this
  have e2 : ix (P ++ (X ++ u :: x :: Y)) (P.length + X.length + 1) = x := by
   have := ix_mid (P ++ X ++ [u]) x Y; simpa [Nat.add_assoc] using this
  have e3 : ix (P ++ (X ++ x :: u :: Y)) (P.length + X.length) = x := by
   have := ix_mid (P ++ X) x (u :: Y); simpa using this
  have e4 : ix (P ++ (X ++ x :: u :: Y)) (P.length + X.length + 1) = u := by
   have := ix_mid (P ++ X ++ [x]) u Y; simpa [Nat.add_assoc] using this
  rw [ix_swp _ _ _ _ (by simp; omega) (by simp)]
  by_cases h1 : P.length + X.length = k
  ·
   rw [if_pos h1, ← h1, e2, e3]
  ·
   rw [if_neg h1]
   by_cases h2 : P.length + X.length + 1 = k
   ·
    rw [if_pos h2, ← h2, e1, e4]
   ·
    rw [if_neg h2]
    have h4 : ∀ a b : Int, ix (a :: b :: Y) (k - P.length - X.length) = if k < P.length + X.length then ix (a :: b :: Y) 0 else ix Y (k - P.length - X.length - 2) := fun a b => by
     by_cases h3 : k < P.length + X.length
     ·
      rw [if_pos h3, show k - P.length - X.length = 0 from by omega]
     ·
      rw [if_neg h3]
      obtain ⟨n, hn⟩ : ∃ n, k - P.length - X.length = n + 2 := ⟨k - P.length - X.length - 2, by omega⟩
      rw [hn]; simp [ix, List.getD_eq_getElem?_getD]
    simp only [ix_append]
    by_cases h5 : k < P.length
    ·
     rw [if_pos h5, if_pos h5]
    ·
     rw [if_neg h5, if_neg h5]
     by_cases h6 : k - P.length < X.length
     ·
      rw [if_pos h6, if_pos h6]
     ·
      rw [if_neg h6, if_neg h6, h4, h4, if_neg (by omega), if_neg (by omega)]

theorem insert_sorted {prec : Int → Int → Prop} (htr : ∀ x y z, prec x y → prec y z → prec x z) (X Y : List Int) (x : Int) (h : (X ++ Y).Pairwise prec) (hY : ∀ y ∈ Y, prec x y)
  (hX : ∀ u ∈ X, prec u x) : (X ++ x :: Y).Pairwise prec := by
 rw [List.pairwise_append] at h ⊢
 refine ⟨h.1, List.pairwise_cons.2 ⟨hY, h.2.1⟩, fun u hu v hv => ?_⟩
 rcases List.mem_cons.1 hv with rfl | hv
 ·
  exact hX u hu
 ·
  exact htr u x v (hX u hu) (hY v hv)

theorem last_sorted {prec : Int → Int → Prop} (htr : ∀ x y z, prec x y → prec y z → prec x z) (X : List Int) (u x : Int) (Y : List Int) (h : (X ++ [u] ++ Y).Pairwise prec) (hu : prec u x) : ∀ v ∈ X ++ [u], prec v x := by
 intro v hv
 rcases List.mem_append.1 hv with hv | hv
 ·
  rw [List.append_assoc, List.pairwise_append] at h
  exact htr v u x (h.2.2 v hv u (by simp)) hu
 ·
  rw [List.mem_singleton.1 hv]; exact hu

set_option maxRecDepth 10000 in
set_option maxHeartbeats 2000000 in
theorem insertion_any (f : Nat) (cap : Array Value) (cf : Int → Int → Int) (dom : Int → Prop) (prec : Int → Int → Prop) (g T c l : Nat) (a b : Int) (P A S : List Int) (w : World)
  (hcf : ∀ (args : Array Value) (w : World), (callFunc f args).run Tryz.prog w = .ok (.enter f args) w)
  (hcmp : CmpAt f cap cf dom g w) (htr : ∀ x y z, prec x y → prec y z → prec x z)
  (hl : l = (P ++ (A ++ S)).length) (hD : l ≤ 4000) (hR : IntRow w g T (P ++ (A ++ S))) (ha : a = P.length) (hb : b = P.length + A.length) (hA : 0 < A.length)
  (hdom : ∀ x ∈ A, dom x) (hok : A.Pairwise (Ok cf prec)) :
  Calls Tryz.prog 86 #[.slice (some ⟨g, 0, none⟩) l c, .int .i64 a, .int .i64 b, .func (.func f) #[] cap] w
   fun e w' => e = .returned (.tuple #[]) ∧ w.grownBy w' (some g) ∧ ∃ A', IntRow w' g T (P ++ (A' ++ S)) ∧ A'.Perm A ∧ A'.Pairwise prec := by
 have hl' : l = P.length + (A.length + S.length) := by simpa using hl
 have b1 : 0 ≤ a ∧ a ≤ 4000 := by omega
 have b2 : a < b ∧ b ≤ 4000 := by omega
 have HA := Lib.hid ha; have HB := Lib.hid hb; have HL := Lib.hid hl'; have HO := Lib.hid hok; have HT := Lib.hid htr; have HDM := Lib.hid hdom
 have HC := Lib.hid hcmp
 clear ha hb hl hl' hok htr hdom hcmp
 go_enter Tryz.func86, Tryz.ntmps86
 go_wp2
 go_loopw [8, 9] (fun vi _ wr => ∃ (i : Nat) (A1 A2 A1' : List Int), vi = .int .i64 i ∧ (i : Int) ≤ b ∧ Hid (A = A1 ++ A2) ∧ Hid (i = P.length + A1.length) ∧ Hid (A1'.Perm A1 ∧ A1'.Pairwise prec) ∧ w.grownBy wr (some g) ∧ IntRow wr g T (P ++ (A1' ++ (A2 ++ S))))
  (fun vi _ _ => (b - intOf vi).toNat)
 case atStart =>
  cases hA' : A with
  | nil => simp [hA'] at hA
  | cons x A2 => exact ⟨P.length + 1, [x], A2, [x], by rw [HA.out]; rfl, by have := HA.out; omega, rfl, rfl, ⟨List.Perm.refl _, by simp⟩, grown_refl _ _, by rw [hA'] at hR; simpa using hR⟩
 case round =>
  obtain ⟨i, A1, A2, A1', rfl, hib, H1, H2, H3, hg, hr⟩ := hrel
  clear hR
  by_cases hlt : (i : Int) < b
  ·
   obtain ⟨x, A3, hA2⟩ : ∃ x A3, A2 = x :: A3 := by
    cases hA2 : A2 with
    | nil => exfalso; have h1 := H1.out; have h2 := H2.out; have h3 := HB.out; rw [hA2] at h1; simp at h1; subst h1; omega
    | cons x A3 => exact ⟨x, A3, rfl⟩
   have hr0 : IntRow wr g T (P ++ (A1' ++ x :: (A3 ++ S))) := by rw [hA2] at hr; simpa using hr
   have hle : A1'.length = A1.length := H3.out.1.length_eq
   have HLE := Lib.hid hle
   have HX : Hid (∀ u ∈ A1', Ok cf prec u x) := by
    intro u hu
    have h0 := HO.out
    rw [H1.out, hA2, List.pairwise_append] at h0
    exact h0.2.2 u (H3.out.1.mem_iff.1 hu) x (by simp)
   have HD1 : Hid (∀ u ∈ A1', dom u) := fun u hu => HDM.out u (by rw [H1.out]; exact List.mem_append_left _ (H3.out.1.mem_iff.1 hu))
   have HD2 : Hid (dom x) := HDM.out x (by rw [H1.out, hA2]; simp)
   have hlen : Hid (l = P.length + (A1'.length + (1 + (A3.length + S.length)))) := by
    have h1 := HL.out; have h2 := congrArg List.length H1.out; rw [hA2] at h2; simp at h2; show _ = _; omega
   have HA2 := Lib.hid hA2
   have hi4 : i ≤ 4000 := by have := hlen.out; have := H2.out; omega
   clear hA2 hle hr
   go_wp2
   obtain ⟨wo, rfl⟩ : ∃ wo : World, wo = wr := ⟨_, rfl⟩
   go_loopw [9] (fun vj wr => ∃ (j : Nat) (X Y : List Int), vj = .int .i64 j ∧ j ≤ i ∧ a ≤ j ∧ Hid (j = P.length + X.length) ∧ Hid (A1' = X ++ Y) ∧ Hid (∀ y ∈ Y, prec x y) ∧ w.grownBy wr (some g) ∧ IntRow wr g T (P ++ (X ++ x :: (Y ++ (A3 ++ S)))))
    (fun vj _ => (intOf vj).toNat)
   case atStart => exact ⟨i, A1', [], rfl, Nat.le_refl _, by have := H2.out; have := HA.out; omega, by have := H2.out; have := HLE.out; show _ = _; omega, by simp [Hid], by simp [Hid], hg, hr0⟩
   case round =>
    clear hr0
    obtain ⟨j, X, Y, rfl, hji, haj, K1, K2, K3, hg2, hr⟩ := hrel
    by_cases hja : a < j
    ·
     obtain ⟨X', u, hX⟩ : ∃ X' u, X = X' ++ [u] := by
      rcases List.eq_nil_or_concat X with h | ⟨X', u, h⟩
      ·
       exfalso; have h1 := K1.out; have h2 := HA.out; rw [h] at h1; simp at h1; omega
      ·
       exact ⟨X', u, by simpa using h⟩
     obtain ⟨q, rfl⟩ : ∃ q, j = q + 1 := ⟨j - 1, by have := HA.out; omega⟩
     have hq : q = P.length + X'.length := by have h1 := K1.out; rw [hX] at h1; simp at h1; omega
     have hr1 : IntRow wr g T (P ++ (X' ++ u :: x :: (Y ++ (A3 ++ S)))) := by rw [hX] at hr; simpa using hr
     have hlq : q + 1 < (P ++ (X' ++ u :: x :: (Y ++ (A3 ++ S)))).length := by simp; omega
     have e1 : ix (P ++ (X' ++ u :: x :: (Y ++ (A3 ++ S)))) q = u := by
      have := ix_mid (P ++ X') u (x :: (Y ++ (A3 ++ S))); rw [hq]; simpa using this
     have e2 : ix (P ++ (X' ++ u :: x :: (Y ++ (A3 ++ S)))) (q + 1) = x := by
      have := ix_mid (P ++ X' ++ [u]) x (Y ++ (A3 ++ S)); rw [hq]; simpa [Nat.add_assoc] using this
     have c1 := hr1.cell q (by omega)
     have c2 := hr1.cell (q + 1) (by omega)
     have f1 := hr1.free q
     have f2 := hr1.free (q + 1)
     have HW := Lib.hid (hr1.swp (q + 1) q (by omega) (by omega))
     rw [e1] at c1; rw [e2] at c2
     have HW2 : Hid (IntRow ((wr.setCell ⟨g, q + 1, none⟩ (.int .i64 u)).setCell ⟨g, q, none⟩ (.int .i64 x)) g T (P ++ (X' ++ x :: u :: (Y ++ (A3 ++ S))))) := by
      have := HW.out; rw [e1, e2, swp_mid P X' _ u x q hq] at this; exact this
     have hu : u ∈ A1' := by rw [K2.out, hX]; simp
     have HC2 : Hid (∀ n, Calls Tryz.prog f (#[.int .i64 x, .int .i64 u] ++ cap) (wr.drewN n) fun e w' => e = .returned (.int .i64 (cf x u)) ∧ ∃ q, w' = (wr.drewN n).drewN q) :=
      fun n => HC.out x u _ HD2.out (HD1.out u hu) (grown_trans hg2 (grown_drew _ _ _))
     have HU := Lib.hid (HX.out u hu)
     have HXq := Lib.hid hX; have HQ := Lib.hid hq
     clear HW hX hq hr1 e1 e2 hlq hu
     have hr0 := Lib.hid hr; clear hr
     have t1 : (a < (q : Int) + 1) := by omega
     have t2 : (q : Int) + 1 < (l : Int) := by have := hlen.out; have := HQ.out; have h3 := congrArg List.length K2.out; rw [HXq.out] at h3; simp at h3; omega
     by_cases hlv : cf x u < 0
     ·
      clear hr0
      go_wp2_with fail
      go_quiet (exact Calls.quiet_of (HC2.out _))
      go_wp2
      go_region
      go_wp2
      go_roundw
      case rel => exact ⟨q, X', u :: Y, rfl, by omega, by omega, HQ.out, (by show _ = _; rw [K2.out, HXq.out]; simp), (by intro y hy; rcases List.mem_cons.1 hy with rfl | hy; exact HU.out.1 hlv; exact K3.out y hy), grown_trans hg2 (grown_trans (grown_drew _ _ _) (grown_trans (grown_setCell _ _ _ _) (grown_setCell _ _ _ _))), HW2.out⟩
      case measure => simp [intOf]
     ·
      have FIN : Hid ((X ++ x :: Y).Perm (A1 ++ [x]) ∧ (X ++ x :: Y).Pairwise prec) := by
       have h1 := H3.out; rw [K2.out] at h1
       refine ⟨(List.perm_middle.trans ((h1.1.cons x).trans (List.perm_append_singleton x A1).symm)), insert_sorted HT.out X Y x h1.2 K3.out ?_⟩
       rw [HXq.out] at h1 ⊢
       exact last_sorted HT.out X' u x Y h1.2 (HU.out.2 hlv)
      go_wp2_with fail
      go_quiet (exact Calls.quiet_of (HC2.out _))
      go_wp2
      go_roundw
      case rel => exact ⟨i + 1, A1 ++ [x], A3, X ++ x :: Y, by go_num, by omega, by show _ = _; rw [H1.out, HA2.out]; simp, by have := H2.out; simp [Hid]; omega, FIN.out, grown_trans hg2 (grown_drew _ _ _), IntRow.drewN (by simpa using hr0.out) _⟩
      case measure => simp [intOf]; omega
    ·
     have hd : decide (a < (j : Int)) = false := by simp; omega
     have hX : X = [] := by have h1 := K1.out; have h2 := HA.out; exact List.length_eq_zero_iff.1 (by omega)
     have FIN : Hid ((X ++ x :: Y).Perm (A1 ++ [x]) ∧ (X ++ x :: Y).Pairwise prec) := by
      have h1 := H3.out; rw [K2.out] at h1
      exact ⟨(List.perm_middle.trans ((h1.1.cons x).trans (List.perm_append_singleton x A1).symm)), insert_sorted HT.out X Y x h1.2 K3.out (by rw [hX]; simp)⟩
     clear hX
     go_wp2_with fail
     go_quiet (fail)
     go_wp2
     go_roundw
     case rel => exact ⟨i + 1, A1 ++ [x], A3, X ++ x :: Y, by go_num, by omega, by show _ = _; rw [H1.out, HA2.out]; simp, by have := H2.out; simp [Hid]; omega, FIN.out, grown_trans hg2 (grown_drew _ _ _), IntRow.drewN (by simpa using hr) _⟩
     case measure => simp [intOf]; omega
  ·
   go_wp2
   go_end0
   have hA2 : A2 = [] := by
    have h1 := congrArg List.length H1.out; have h2 := H2.out; have h3 := HB.out
    simp at h1
    exact List.length_eq_zero_iff.1 (by omega)
   exact ⟨rfl, hg, A1', by rw [hA2] at hr; simpa using hr, by rw [H1.out, hA2]; simpa using H3.out.1, H3.out.2⟩
end Go.Proofs.YthabgljdndbphaaGreatDoor

namespace Go.Proofs.YthabgljdndbphaaGreatDoor
open Go.RowKit

theorem swp_comm (D : List Int) (i j : Nat) (hi : i < D.length) (hj : j < D.length) : swp D i j = swp D j i := by
 apply list_ext_ix
 ·
  rw [swp_length, swp_length]
 ·
  intro k _
  rw [ix_swp _ _ _ _ hi hj, ix_swp _ _ _ _ hj hi]
  by_cases h1 : i = k <;> by_cases h2 : j = k
  ·
   rw [if_pos h2, if_pos h1, h1, h2]
  ·
   rw [if_neg h2, if_pos h1, if_pos h1]
  ·
   rw [if_pos h2, if_neg h1, if_pos h2]
  ·
   rw [if_neg h2, if_neg h1, if_neg h1, if_neg h2]

theorem swp_mid2 (P X Y : List Int) (u x : Int) (q : Nat) (hq : q = P.length + X.length) :
  swp (P ++ (X ++ u :: x :: Y)) q (q + 1) = P ++ (X ++ x :: u :: Y) := by
 rw [swp_comm _ _ _ (by simp; omega) (by simp; omega), swp_mid P X Y u x q hq]

/-- A list cut at a place. -/
theorem cut_at (L : List Int) (n : Nat) (h : n < L.length) : ∃ A v B, L = A ++ v :: B ∧ A.length = n :=
 ⟨L.take n, L[n], L.drop (n + 1), by rw [← List.drop_eq_getElem_cons h]; exact (List.take_append_drop n L).symm, by simp; omega⟩

theorem ix_at (P X Y : List Int) (u : Int) (q : Nat) (hq : q = P.length + X.length) : ix (P ++ (X ++ u :: Y)) q = u := by
 have := ix_mid (P ++ X) u Y; rw [hq]; simpa using this

set_option maxRecDepth 20000 in
set_option maxHeartbeats 2000000 in
theorem symMerge_left (f : Nat) (cap : Array Value) (cf : Int → Int → Int) (dom : Int → Prop) (prec : Int → Int → Prop) (g T c l : Nat) (a m b : Int) (P B S : List Int) (x : Int) (w : World)
  (hcf : ∀ (args : Array Value) (w : World), (callFunc f args).run Tryz.prog w = .ok (.enter f args) w)
  (hcmp : CmpAt f cap cf dom g w) (htr : ∀ x y z, prec x y → prec y z → prec x z)
  (hl : l = (P ++ (x :: (B ++ S))).length) (hD : l ≤ 4000) (hR : IntRow w g T (P ++ (x :: (B ++ S)))) (ha : a = P.length) (hm : m = P.length + 1) (hb : b = P.length + 1 + B.length) (hB : 0 < B.length)
  (hdom : ∀ x ∈ B, dom x) (hdx : dom x) (hs : B.Pairwise prec) (hok : ∀ v ∈ B, Ok cf prec x v) :
  Calls Tryz.prog 87 #[.slice (some ⟨g, 0, none⟩) l c, .int .i64 a, .int .i64 m, .int .i64 b, .func (.func f) #[] cap] w
   fun e w' => e = .returned (.tuple #[]) ∧ w.grownBy w' (some g) ∧ ∃ M, IntRow w' g T (P ++ (M ++ S)) ∧ M.Perm (x :: B) ∧ M.Pairwise prec := by
 have hl' : l = P.length + (1 + (B.length + S.length)) := by simp at hl; omega
 obtain ⟨a', rfl⟩ : ∃ a' : Nat, a = a' := ⟨_, ha⟩
 obtain ⟨m', rfl⟩ : ∃ a' : Nat, m = a' := ⟨P.length + 1, by omega⟩
 obtain ⟨b', rfl⟩ : ∃ a' : Nat, b = a' := ⟨P.length + 1 + B.length, by omega⟩
 have b1 : a' ≤ 4000 := by omega
 have b2 : a' < m' ∧ m' < b' ∧ b' ≤ 4000 := by omega
 have t0 : ((m' : Int) - a' == 1) = true := by rw [beq_iff_eq]; omega
 have HA : Hid (a' = P.length) := by show _ = _; omega
 have HM : Hid (m' = P.length + 1) := by show _ = _; omega
 have HB : Hid (b' = P.length + 1 + B.length) := by show _ = _; omega
 have HL := Lib.hid hl'; have HO := Lib.hid hok; have HT := Lib.hid htr; have HDM := Lib.hid hdom; have HS := Lib.hid hs
 have HC := Lib.hid hcmp; have HDX := Lib.hid hdx
 clear ha hm hb hl hl' hok htr hdom hcmp hs hdx
 have bl : b' ≤ l := by have := HL.out; have := HB.out; omega
 go_enter Tryz.func87, Tryz.ntmps87
 go_wp2
 go_loopw [10, 11, 12] (fun vi vj _ wr => ∃ (i j : Nat) (Y M Z : List Int), vi = .int .i64 i ∧ vj = .int .i64 j ∧ m' ≤ i ∧ i ≤ j ∧ j ≤ b' ∧ Hid (B = Y ++ (M ++ Z)) ∧ Hid (i = m' + Y.length) ∧ Hid (j = i + M.length) ∧
   Hid ((∀ y ∈ Y, prec y x) ∧ ∀ z ∈ Z, prec x z) ∧ w.grownBy wr (some g) ∧ IntRow wr g T (P ++ (x :: (B ++ S))))
  (fun vi vj _ _ => (intOf vj - intOf vi).toNat)
 case atStart => exact ⟨m', b', [], B, [], rfl, rfl, Nat.le_refl _, by omega, Nat.le_refl _, by simp [Hid], by simp [Hid], by have := HM.out; have := HB.out; show _ = _; omega, by simp [Hid], grown_refl _ _, hR⟩
 case round =>
  clear hR
  obtain ⟨i, j, Y, M, Z, rfl, rfl, hmi, hij, hjb, H1, H2, H3, H4, hg, hr⟩ := hrel
  by_cases hlt : i < j
  ·
   have b3 : i ≤ 4000 := by omega
   have b4 : j ≤ 4000 := by omega
   obtain ⟨h, hh⟩ : ∃ h : Nat, ((i : Int) + (j : Int)) / 2 = h := ⟨(i + j) / 2, by omega⟩
   have b5 : i ≤ h ∧ h < j := by omega
   have b6 : h < l := by omega
   obtain ⟨M1, v, M2, hM, hM1⟩ := cut_at M (h - i) (by have := H3.out; omega)
   have hB1 : B = (Y ++ M1) ++ v :: (M2 ++ Z) := by rw [H1.out, hM]; simp
   have hr1 := hr
   rw [hB1] at hr1
   have c1 := hr1.cell h (by have := H2.out; have := HM.out; simp; omega)
   have c2 := hr1.cell a' (by have := HA.out; simp; omega)
   have e1 : ix (P ++ (x :: ((Y ++ M1) ++ v :: (M2 ++ Z) ++ S))) h = v := by
    have := ix_at (P ++ [x]) (Y ++ M1) (M2 ++ Z ++ S) v h (by have := H2.out; have := HM.out; simp; omega)
    simpa using this
   have e2 : ix (P ++ (x :: ((Y ++ M1) ++ v :: (M2 ++ Z) ++ S))) a' = x := by
    have := ix_mid P x ((Y ++ M1) ++ v :: (M2 ++ Z) ++ S); rw [HA.out]; simpa using this
   rw [e1] at c1; rw [e2] at c2
   have hv : v ∈ B := by rw [hB1]; simp
   have HC2 : Hid (∀ n, Calls Tryz.prog f (#[.int .i64 v, .int .i64 x] ++ cap) (wr.drewN n) fun e w' => e = .returned (.int .i64 (cf v x)) ∧ ∃ q, w' = (wr.drewN n).drewN q) :=
    fun n => HC.out v x _ (HDM.out v hv) HDX.out (grown_trans hg (grown_drew _ _ _))
   have HV := Lib.hid (HO.out v hv)
   have hs1 := HS.out
   rw [hB1] at hs1
   have HS1 := Lib.hid hs1; have HM := Lib.hid hM; have HM1 := Lib.hid hM1; have HR := Lib.hid hr
   clear hr1 e1 e2 hB1 hs1 hM hM1 hr hv
   by_cases hlv : cf v x < 0
   ·
    have F : Hid (∀ y ∈ (Y ++ M1) ++ [v], prec y x) := last_sorted HT.out (Y ++ M1) v x [] (by have := HS1.out; rw [List.pairwise_append] at this ⊢; exact ⟨by
      rw [List.pairwise_append]; exact ⟨this.1, by simp, fun p hp q hq => this.2.2 p hp q (by simp at hq; simp [hq])⟩, by simp, by simp⟩) (HV.out.1 hlv)
    go_wp2_with fail
    go_quiet (exact Calls.quiet_of (HC2.out _))
    go_wp2
    go_roundw
    case rel => exact ⟨h + 1, j, (Y ++ M1) ++ [v], M2, Z, rfl, rfl, by omega, by omega, hjb, by show _ = _; rw [H1.out, HM.out]; simp, by have := HM1.out; have := H2.out; simp [Hid]; omega, by have h1 := H3.out; rw [HM.out] at h1; simp at h1; have := HM1.out; show _ = _; omega, ⟨F.out, H4.out.2⟩, grown_trans hg (grown_drew _ _ _), HR.out.drewN _⟩
    case measure => simp [intOf]; omega
   ·
    have F : Hid (∀ z ∈ v :: M2 ++ Z, prec x z) := by
     intro z hz
     have h1 := HS1.out
     rw [List.pairwise_append] at h1
     rcases List.mem_cons.1 (by simpa using hz : z ∈ v :: (M2 ++ Z)) with rfl | hz
     ·
      exact HV.out.2 hlv
     ·
      exact HT.out x v z (HV.out.2 hlv) ((List.pairwise_cons.1 h1.2.1).1 z hz)
    go_wp2_with fail
    go_quiet (exact Calls.quiet_of (HC2.out _))
    go_wp2
    go_roundw
    case rel => exact ⟨i, h, Y, M1, v :: M2 ++ Z, rfl, rfl, by omega, by omega, by omega, by show _ = _; rw [H1.out, HM.out]; simp, H2.out, by have := HM1.out; show _ = _; omega, ⟨H4.out.1, F.out⟩, grown_trans hg (grown_drew _ _ _), HR.out.drewN _⟩
    case measure => simp [intOf]; omega
  ·
   have hM : M = [] := by have := H3.out; exact List.length_eq_zero_iff.1 (by omega)
   have hBB : B = Y ++ Z := by rw [H1.out, hM]; simp
   have HBB := Lib.hid hBB
   have FIN : Hid ((Y ++ x :: Z).Perm (x :: B) ∧ (Y ++ x :: Z).Pairwise prec) := by
    rw [hBB]; exact ⟨List.perm_middle, insert_sorted HT.out Y Z x (by have := HS.out; rw [hBB] at this; exact this) H4.out.2 H4.out.1⟩
   rw [hBB] at hr
   clear hM hBB
   have b3 : i ≤ 4000 := by omega
   have b4 : i ≤ l := by omega
   have b5 : 1 ≤ i := by omega
   go_wp2
   obtain ⟨wo, rfl⟩ : ∃ wo : World, wo = wr := ⟨_, rfl⟩
   go_loopw [13] (fun vk wr => ∃ (k : Nat) (Y1 Y2 : List Int), vk = .int .i64 k ∧ k + 1 ≤ i ∧ Hid (Y = Y1 ++ Y2) ∧ Hid (k = P.length + Y1.length) ∧ w.grownBy wr (some g) ∧ IntRow wr g T (P ++ (Y1 ++ x :: (Y2 ++ (Z ++ S)))))
    (fun vk _ => ((i : Int) - intOf vk).toNat)
   case atStart => exact ⟨a', [], Y, rfl, by omega, by simp [Hid], by have := HA.out; simp [Hid]; omega, hg, by simpa using hr⟩
   case round =>
    clear hr
    obtain ⟨k, Y1, Y2, rfl, hki, K1, K2, hg2, hr⟩ := hrel
    by_cases hlt2 : k + 1 < i
    ·
     obtain ⟨u, Y3, hY⟩ : ∃ u Y3, Y2 = u :: Y3 := by
      cases hY : Y2 with
      | nil => exfalso; have h1 := K1.out; rw [hY] at h1; simp at h1; subst h1; have := H2.out; have := K2.out; have := HM.out; omega
      | cons u Y3 => exact ⟨u, Y3, rfl⟩
     have hr1 : IntRow wr g T (P ++ (Y1 ++ x :: u :: (Y3 ++ (Z ++ S)))) := by rw [hY] at hr; exact hr
     have e1 := ix_at P Y1 (u :: (Y3 ++ (Z ++ S))) x k K2.out
     have e2 : ix (P ++ (Y1 ++ x :: u :: (Y3 ++ (Z ++ S)))) (k + 1) = u := by
      have := ix_at P (Y1 ++ [x]) (Y3 ++ (Z ++ S)) u (k + 1) (by have := K2.out; simp; omega)
      simpa using this
     have hlk : k + 1 < (P ++ (Y1 ++ x :: u :: (Y3 ++ (Z ++ S)))).length := by have := K2.out; simp; omega
     have c1 := hr1.cell k (by omega)
     have c2 := hr1.cell (k + 1) hlk
     have f1 := hr1.free k
     have f2 := hr1.free (k + 1)
     have hw := hr1.swp k (k + 1) (by omega) hlk
     rw [e1, e2, swp_mid2 P Y1 _ x u k K2.out] at hw
     rw [e1] at c1; rw [e2] at c2
     have HW := Lib.hid hw; have HY := Lib.hid hY
     have b6 : k + 1 < l := by omega
     clear hw hr1 hr e1 e2 hlk hY
     have b7 : (k : Int) < (i : Int) - 1 := by omega
     go_wp2_with fail
     go_region
     go_wp2
     go_roundw
     case rel => exact ⟨k + 1, Y1 ++ [u], Y3, rfl, by omega, by show _ = _; rw [K1.out, HY.out]; simp, by have := K2.out; simp [Hid]; omega, grown_trans hg2 (grown_trans (grown_setCell _ _ _ _) (grown_trans (grown_setCell _ _ _ _) (grown_drew1 _ _))), IntRow.drew1 (by simpa using HW.out)⟩
     case measure => simp [intOf]; omega
    ·
     have hY : Y2 = [] := by
      have h1 := congrArg List.length K1.out; simp at h1
      have := H2.out; have := K2.out; have := HM.out
      exact List.length_eq_zero_iff.1 (by omega)
     have FR : Hid (IntRow wr g T (P ++ ((Y ++ x :: Z) ++ S))) := by
      have h1 := K1.out; rw [hY] at h1 hr; simp at h1; subst h1; simpa [Hid] using hr
     have b7 : (i : Int) - 1 ≤ (k : Int) := by omega
     clear hY hr
     go_wp2
     (try simp only [Exit.inBlock, Exit.then])
     refine bodyPost_ret (results_none rfl _ _ _) rfl ?_
     exact ⟨rfl, hg2, _, FR.out, FIN.out⟩
end Go.Proofs.YthabgljdndbphaaGreatDoor
