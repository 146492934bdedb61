/- foyerref22.bound and Bound; foyerref22.Bound. -/
import Derived.Test.YthabgljdndbphaaGreatDoorQPKM18
import Derived.Deep.RegionHeld3

set_option linter.unusedVariables false
set_option linter.unusedSimpArgs false
namespace Go.Proofs.YthabgljdndbphaaGreatDoor
open Go.RowKit

set_option maxRecDepth 10000 in
set_option maxHeartbeats 3200000 in
theorem refbound_any (ga : Option Addr) (ad : Addr) (m d oc : Nat) (len : Int) (G : List (Int × Int)) (D0 : List Bool) (w : World)
  (hm : m ≤ 4000) (hG : Pairs w ga m G) (hD : Bools w (some ad) m D0) (hv : ValuesOk G) (hl0 : 0 ≤ len) (hl1 : len ≤ 4000) :
  Calls Tryz.prog 64 #[.slice ga m d, .slice (some ad) m oc, .int .i64 len] w fun e w' => e = .returned (.int .i64 (fillS G (outOf D0) len (rankedL G))) ∧ Below w.heap.size w w' := by
 obtain ⟨i0, hi, hz0, hz1, hz2⟩ := info_parts Tryz_infoBool
 have hnews : Hid (∀ (j : Nat) (u : Value), (D0.map Value.bool)[j]? = some u → (w.alloc (.cells #[] 4)).cell? (ad.add j) = some u) := by
  intro j u hj
  have hjn : j < m := by
   rw [← hD.1]
   rcases Nat.lt_or_ge j D0.length with h | h
   ·
    exact h
   ·
    rw [List.getElem?_eq_none (by simpa using h)] at hj; simp at hj
  obtain ⟨b, o, e, hcell⟩ := hD.2 j hjn
  simp only [Option.some.injEq] at e
  subst e
  have e2 : (⟨b, o, none⟩ : Addr).add j = ⟨b, o + j, none⟩ := by unfold Addr.add; split <;> simp_all
  rw [e2, World.cell?_alloc_lt _ _ _ (cell_lt hcell), hcell]
  have hjl : j < D0.length := by rw [hD.1]; exact hjn
  simp [hjl] at hj
  rw [← hj]
  simp [bx, List.getD_eq_getElem?_getD, hjl]
 have hlen : Hid ((D0.map Value.bool).length = m * 1) := by simp [Hid, hD.1]
 have hone : Hid (∀ u ∈ D0.map Value.bool, u.oneCell' = true) := by
  intro u hu
  obtain ⟨x, _, rfl⟩ := List.mem_map.1 hu
  rfl
 have hgl : G.length = m := hG.1
 have hrange : Hid (∀ x ∈ rankedL G, 0 ≤ gs G x.toNat ∧ gs G x.toNat ≤ 12 ∧ 0 ≤ gv G x.toNat ∧ gv G x.toNat ≤ 1000000) := by
  intro x hx
  have h1 := (mem_ranked G x).1 hx
  have h2 := hv x.toNat (by omega)
  omega
 have htot : Hid (fillS G (outOf D0) len (rankedL G) ≤ 48000000000) := by
  have h1 := (fillS_bounds G (outOf D0) (rankedL G) len hl0 hrange.out).2
  have h2 : (rankedL G).length = m := by rw [(rankedL_ok G).1.length_eq, idx_length, hgl]
  show _ ≤ _
  rw [h2] at h1
  omega
 have HG := Lib.hid hG; have HV := Lib.hid hv; have HGL := Lib.hid hgl; have HDL := Lib.hid hD.1
 clear hG hD hv hgl
 go_enter Tryz.func64, Tryz.ntmps64
 go_wp2_with (at_builtin; refine wpList_append_own _ rfl _ _ 77 rfl w.heap.size 4 i0 (.bool false) 1 1 Tryz.underlying77 hi hz0 hz1 hz2 rfl (by decide) _ 0 [] rfl (World.ownsRow_made w #[] 0 (Nat.le_refl _) (by unfold maxLen; omega) rfl) ad m oc (D0.map Value.bool) rfl hlen.out hnews.out hone.out (by unfold maxLen; omega) (by omega) (by simp) ?_)
 intro v' w1 hown hgrow _
 have ho := OwnBools.of_row (L := D0) (by simpa using hown)
 have hbel : Below w.heap.size w w1 := ((Below.refl _ _).alloc (Nat.le_refl _) _).grown hgrow (by simp) (fun k hk => by simp [Value.ownBlock] at hk; omega)
 obtain ⟨la, c', rfl, ho⟩ := ho
 have HLA : Hid (0 < m → ∃ g, la = some ⟨g, 0, none⟩ ∧ w.heap.size ≤ g) := fun h => by obtain ⟨g, e, h1, _⟩ := ho.2 h; exact ⟨g, e, h1⟩
 have HROW0 : Hid (∀ g, 0 < m → la = some ⟨g, 0, none⟩ → BoolRow w1 g 4 D0) := fun g h e => by
  obtain ⟨g', e', _, h2⟩ := ho.2 h
  rw [e] at e'; simp at e'; subst e'; exact h2
 clear hown hgrow ho hnews hlen hone hi hz0 hz1 hz2 i0
 go_wp2
 go_loopw [2, 8, 9, 10, 11] (fun v2 v8 _ _ _ wr => ∃ (n value : Int) (D : List Bool), v2 = .int .i64 n ∧ v8 = .int .i64 value ∧ 0 ≤ n ∧ n ≤ 4000 ∧ 0 ≤ value ∧ Hid (D.length = m) ∧ Hid (∀ g, 0 < m → la = some ⟨g, 0, none⟩ → BoolRow wr g 4 D) ∧ Below w.heap.size w wr ∧
   Hid (fillS G (outOf D0) len (rankedL G) = value + fillS G (outOf D) n (rankedL G)))
  (fun v2 _ _ _ _ _ => (intOf v2).toNat)
 case atStart => exact ⟨len, 0, D0, rfl, rfl, hl0, hl1, by omega, HDL, HROW0, hbel, by simp [Hid]⟩
 case round =>
  clear HROW0 hbel
  obtain ⟨n, value, D, rfl, rfl, hn0, hn1, hv0, HDL2, HROW, hb, HF⟩ := hrel
  have hval : value ≤ 48000000000 := by
   have h1 := (fillS_bounds G (outOf D) (rankedL G) n hn0 hrange.out).1; have h2 := htot.out; have h3 := HF.out; omega
  by_cases hlt : 0 < n
  ·
   go_wp2
   obtain ⟨wo, rfl⟩ : ∃ wo : World, wo = wr := ⟨_, rfl⟩
   go_loopw [9, 10] (fun v9 v10 wr => ∃ (i : Nat) (best : Int), v10 = .int .i64 i ∧ v9 = .int .i64 best ∧ i ≤ m ∧ -1 ≤ best ∧ best < i ∧ Hid (BestOf G D i best) ∧ Hid (∀ g, 0 < m → la = some ⟨g, 0, none⟩ → BoolRow wr g 4 D) ∧ Below w.heap.size w wr)
    (fun _ v10 _ => m - (intOf v10).toNat)
   case atStart => exact ⟨0, -1, rfl, rfl, Nat.zero_le _, by omega, by omega, .inl ⟨rfl, fun j hj => absurd hj (by omega)⟩, HROW, hb⟩
   case round =>
    clear HROW hb
    obtain ⟨i, best, rfl, rfl, him, hb1, hb2, HBEST, HROW, hb⟩ := hrel
    by_cases hlt2 : i < m
    ·
     obtain ⟨g, rfl, hg⟩ := HLA.out (by omega)
     have cd := (HROW.out g (by omega) rfl).cell i (by rw [HDL2.out]; exact hlt2)
     have HROW2 : Hid (∀ q g', 0 < m → some (⟨g, 0, none⟩ : Addr) = some ⟨g', 0, none⟩ → BoolRow (wr.drewN q) g' 4 D) := fun q g' h e => HROW.out g' h e
     cases hd : bx D i
     ·
      rw [hd] at cd
      have HD := Lib.hid hd
      clear hd
      by_cases hbn : best = -1
      ·
       subst hbn
       have FIN : Hid (BestOf G D (i + 1) i) := HBEST.out.first HD.out
       go_wp2_with fail
       go_quiet (fail)
       go_wp2
       go_roundw
       case rel => exact ⟨i + 1, i, by go_num, rfl, by omega, by omega, by omega, FIN, HROW2.out _, below_drewN hb _⟩
       case measure => simp [intOf]; omega
      ·
       obtain ⟨b, rfl⟩ : ∃ b : Nat, best = b := ⟨best.toNat, by omega⟩
       obtain ⟨bg, og, rfl, _, c1⟩ := (HG.out.below hb).2 i hlt2
       obtain ⟨bg', og', e, _, c2⟩ := (HG.out.below hb).2 b (by omega)
       obtain ⟨rfl, rfl⟩ : bg = bg' ∧ og = og' := by simpa using e
       have hbm : b < m := by omega
       clear e hbn
       by_cases hgt : gv G b < gv G i
       ·
        have FIN : Hid (BestOf G D (i + 1) i) := HBEST.out.next hgt HD.out
        go_wp2_with fail
        go_quiet (fail)
        go_wp2
        go_roundw
        case rel => exact ⟨i + 1, i, by go_num, rfl, by omega, by omega, by omega, FIN, HROW2.out _, below_drewN hb _⟩
        case measure => simp [intOf]; omega
       ·
        have FIN : Hid (BestOf G D (i + 1) b) := HBEST.out.keep (by omega) (by omega)
        go_wp2_with fail
        go_quiet (fail)
        go_wp2
        go_roundw
        case rel => exact ⟨i + 1, b, by go_num, rfl, by omega, by omega, by omega, FIN, HROW2.out _, below_drewN hb _⟩
        case measure => simp [intOf]; omega
     ·
      rw [hd] at cd
      have FIN : Hid (BestOf G D (i + 1) best) := HBEST.out.skip hd
      clear hd
      go_wp2_with fail
      go_quiet (fail)
      go_wp2
      go_roundw
      case rel => exact ⟨i + 1, best, by go_num, rfl, by omega, by omega, by omega, FIN, HROW2.out _, below_drewN hb _⟩
      case measure => simp [intOf]; omega
    ·
     obtain rfl : i = m := by omega
     rcases HBEST.out with ⟨hbe, hall⟩ | ⟨b, hbm, hbe, hbd, hbest⟩
     ·
      subst hbe
      have FIN : Hid (fillS G (outOf D0) len (rankedL G) = value) := by
       rw [HF.out, fillS_all G _ _ n (fun x hx => by have := (mem_ranked G x).1 hx; exact hall x.toNat (by rw [HGL.out] at this; omega))]; simp [Hid]
      clear hall
      go_wp2
      go_ret
      exact ⟨by rw [FIN.out]; rfl, hb⟩
     ·
      subst hbe
      obtain ⟨g, rfl, hg⟩ := HLA.out (by omega)
      have hrow := HROW.out g (by omega) rfl
      have cd := hrow.cell b (by rw [HDL2.out]; exact hbm)
      have cf := hrow.free b
      obtain ⟨bg, og, rfl, c1, c2⟩ := (HG.out.below hb).2 b hbm
      have hvv := HV.out b (by rw [HGL.out]; exact hbm)
      have HST := Lib.hid (fillS_best G D n b (by rw [HDL2.out, HGL.out]) (by rw [HGL.out]; exact hbm) hbd (fun j hj => hbest j (by rw [← HGL.out]; exact hj)))
      have HNEW := Lib.hid (hrow.set b (by rw [HDL2.out]; exact hbm) true)
      have c1' : (wr.setCell ⟨g, b, none⟩ (.bool true)).cell? ⟨bg, og + b * 2, none⟩ = some (.int .i64 (gs G b)) := by
       have hb3 : Below w.heap.size w (wr.setCell ⟨g, b, none⟩ (.bool true)) := hb.setCell hg _
       obtain ⟨_, _, e, h1, _⟩ := (HG.out.below hb3).2 b hbm
       simp at e; obtain ⟨rfl, rfl⟩ := e; exact h1
      have c2' : (wr.setCell ⟨g, b, none⟩ (.bool true)).cell? ⟨bg, og + b * 2 + 1, none⟩ = some (.int .i64 (gv G b)) := by
       have hb3 : Below w.heap.size w (wr.setCell ⟨g, b, none⟩ (.bool true)) := hb.setCell hg _
       obtain ⟨_, _, e, _, h1⟩ := (HG.out.below hb3).2 b hbm
       simp at e; obtain ⟨rfl, rfl⟩ := e; exact h1
      have hb3 : Below w.heap.size w (wr.setCell ⟨g, b, none⟩ (.bool true)) := hb.setCell hg _
      clear hbest hrow
      go_upto_region 13 with fail
      generalize (wr.setCell ⟨g, b, none⟩ (.bool true)) = w2 at *
      obtain ⟨s, hs⟩ : ∃ x, x = gs G b := ⟨_, rfl⟩
      obtain ⟨v, hvx⟩ : ∃ x, x = gv G b := ⟨_, rfl⟩
      rw [← hs] at c1' hvv HST; rw [← hvx] at c2' hvv HST
      clear hs hvx c1 c2 cd cf
      obtain ⟨k, hk⟩ : ∃ k, k = min s n := ⟨_, rfl⟩
      have hk1 : 1 ≤ k ∧ k ≤ 12 ∧ k ≤ n := by omega
      have hkv : 0 ≤ k * v ∧ k * v ≤ 12000000 := ⟨Int.mul_nonneg (by omega) (by omega), Int.le_trans (Int.mul_le_mul (show k ≤ 12 by omega) (show v ≤ 1000000 by omega) (by omega) (by omega)) (by omega)⟩
      have hk2 : (if n < s then n else s) = k := by rw [hk]; split <;> omega
      have hk' : min s n = k := hk.symm
      rw [hk'] at HST
      clear hk hk'
      go_wp2
      go_roundw
      case rel => exact ⟨n - k, value + k * v, D.set b true, rfl, rfl, by omega, by omega, by omega, by show _ = _; rw [List.length_set]; exact HDL2.out, fun g' _ e => by simp at e; subst e; exact HNEW.out, hb3, by rw [HF.out, HST.out]; simp only [Hid]; omega⟩
      case measure => simp [intOf]; omega
  ·
   obtain rfl : n = 0 := by omega
   have FIN : Hid (fillS G (outOf D0) len (rankedL G) = value) := by rw [HF.out, fillS_zero G _ _ (fun x hx => (hrange.out x hx).1)]; simp [Hid]
   go_wp2
   go_ret
   exact ⟨by rw [FIN.out]; rfl, hb⟩
end Go.Proofs.YthabgljdndbphaaGreatDoor

namespace Go.Proofs.YthabgljdndbphaaGreatDoor
open Go.RowKit

theorem bx_replicate (m k : Nat) : bx (List.replicate m false) k = false := by
 unfold bx
 simp only [List.getD_eq_getElem?_getD, List.getElem?_replicate]
 split <;> rfl

set_option maxRecDepth 10000 in
set_option maxHeartbeats 800000 in
theorem refBound_any (ra ga : Option Addr) (n c m d : Nat) (single : Bool) (R : List Int) (G : List (Int × Int)) (w : World)
  (hn : n ≤ 4000) (hm : m ≤ 4000) (hR : Ints w ra n R) (hG : Pairs w ga m G) :
  Calls Tryz.prog 49 #[.agg #[.slice ra n c, .slice ga m d, .bool single]] w fun e w' => e = .returned (.int .i64 (boundS R G)) ∧ Below w.heap.size w w' := by
 cases hv : validS R G
 ·
  have HB : Hid (boundS R G = 0) := by simp [Hid, boundS, hv]
  have HV := Lib.hid (refvalid_any ra ga n c m d single false R G (w.alloc (.cells #[.slice ra n c, .slice ga m d, .bool single] 25)) hn hm (hR.below ((Below.refl _ _).alloc (Nat.le_refl _) _)) (hG.below ((Below.refl _ _).alloc (Nat.le_refl _) _)) hv)
  clear hR hG hv
  go_enter Tryz.func49, Tryz.ntmps49
  go_wp2_with fail
  refine HV.out.mono ?_
  rintro e w1 ⟨rfl, hb⟩
  have hb0 : Below w.heap.size w w1 := ((Below.refl _ _).alloc (Nat.le_refl _) _).trans (hb.mono (by simp))
  go_wp2
  go_ret
  exact ⟨by rw [HB.out]; rfl, hb0⟩
 ·
  have HB : Hid (boundS R G = fillS G (fun _ => false) R.sum (rankedL G)) := by simp [Hid, boundS, hv]
  have hvp := validS_parts hv
  have hsum := runsOk_sum R 4000 (by omega) hvp.1
  have HV := Lib.hid (refvalid_any ra ga n c m d single true R G (w.alloc (.cells #[.slice ra n c, .slice ga m d, .bool single] 25)) hn hm (hR.below ((Below.refl _ _).alloc (Nat.le_refl _) _)) (hG.below ((Below.refl _ _).alloc (Nat.le_refl _) _)) hv)
  have HVP := Lib.hid hvp; have HS := Lib.hid hsum; have HR := Lib.hid hR; have HG := Lib.hid hG
  clear hv hvp hsum hR hG
  go_enter Tryz.func49, Tryz.ntmps49
  go_wp2_with fail
  refine HV.out.mono ?_
  rintro e w1 ⟨rfl, hb⟩
  have hb0 : Below w.heap.size w w1 := ((Below.refl _ _).alloc (Nat.le_refl _) _).trans (hb.mono (by simp))
  have x0 : w1.cell? ⟨w.heap.size, 0, none⟩ = some (.slice ra n c) := Below.cell_of hb (by simp [go_sem])
  have x1 : w1.cell? ⟨w.heap.size, 1, none⟩ = some (.slice ga m d) := Below.cell_of hb (by simp [go_sem])
  clear hb HV
  go_wp2
  go_loopw [3, 4] (fun v3 k wr => ∃ (i : Nat), i ≤ n ∧ v3 = .int .i64 (R.take i).sum ∧ k = .int .i64 i ∧ w1 = wr)
   (fun _ k _ => n - (intOf k).toNat)
  case atStart => exact ⟨0, Nat.zero_le _, by simp, rfl, rfl⟩
  case round =>
   obtain ⟨i, hi, rfl, rfl, rfl⟩ := hrel
   by_cases hlt : i < n
   ·
    obtain ⟨bb, o, rfl, r1⟩ := (HR.out.below hb0).2 i hlt
    have hs : (R.take (i + 1)).sum = (R.take i).sum + ix R i := by
     have h1 : i < R.length := by rw [HR.out.1]; exact hlt
     rw [List.take_succ_eq_append_getElem h1, List.sum_append]
     simp [ix, List.getD_eq_getElem?_getD, h1]
    have hb1 : 0 ≤ (R.take i).sum ∧ (R.take i).sum ≤ 4000 := runsOk_take R 4000 i (by omega) HVP.out.1
    have hb2 := HS.out.2.2 i (by rw [HR.out.1]; exact hlt)
    have HSS := Lib.hid hs
    clear hs
    generalize (R.take i).sum = z at *
    generalize ix R i = x at *
    go_wp2
    go_roundw
    case rel => exact ⟨i + 1, by omega, by rw [HSS.out], by go_num, trivial⟩
    case measure => simp [intOf]; omega
   ·
    have HT : Hid ((R.take i).sum = R.sum) := by rw [List.take_of_length_le (by rw [HR.out.1]; omega)]; rfl
    have hz := HS.out.1; have hz2 := HS.out.2.1
    rw [HT.out]
    obtain ⟨arr, hs, hzz, hmk⟩ := make_bools m hm
    have hb0 := hb0.drew
    have x1 : w1.drew.cell? ⟨w.heap.size, 1, none⟩ = some (.slice ga m d) := x1
    have hen := World.new_ne w1.drew _ x1
    have hbr : Hid (Bools (w1.drew.alloc (.cells arr 4)) (some ⟨w1.drew.heap.size, 0, none⟩) m (List.replicate m false)) := by
     have := (BoolRow.made (w := w1.drew) (T := 4) rfl hs hzz).bools; rw [List.length_replicate] at this; exact this
    have hout : Hid (∀ z, fillS G (outOf (List.replicate m false)) z (rankedL G) = fillS G (fun _ => false) z (rankedL G)) := fun z => fillS_congr G _ _ _ _ (fun x _ => bx_replicate m _)
    clear hs hzz
    generalize R.sum = z at *
    go_wp2_with fail
    go_region_held3 (fun w' => w'.cell? ⟨w.heap.size, 1, none⟩ = some (.slice ga m d)) (go_keep)
     (first
      | (go_at_call 64; refine (refbound_any ga ⟨w1.drew.heap.size, 0, none⟩ m d m z G (List.replicate m false) (w1.drew.alloc (.cells arr 4)) hm (HG.out.below (hb0.alloc hb0.size _)) hbr.out HVP.out.2.2 hz hz2).mono ?_; rintro e w3 ⟨rfl, hb3⟩; have x3 : w3.cell? ⟨w.heap.size, 1, none⟩ = some (.slice ga m d) := Below.cell_of hb3 (by rw [World.cell?_alloc_lt _ _ _ (cell_lt x1)]; exact x1)))
    go_wp2
    go_ret
    exact ⟨by rw [HB.out, ← hout.out]; rfl, (hb0.alloc hb0.size _).trans (hb3.mono (by have := hb0.size; simp at *; omega))⟩
end Go.Proofs.YthabgljdndbphaaGreatDoor
