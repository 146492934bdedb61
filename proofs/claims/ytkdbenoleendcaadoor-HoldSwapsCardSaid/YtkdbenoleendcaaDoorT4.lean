/- hold: HoldFrees, the walk. -/
import Derived.Test.YtkdbenoleendcaaDoorT1
namespace Go.Proofs.YtkdbenoleendcaaDoor
open Go.RowKit Go.IntWalk Go.Maps Go.WideMaps

theorem free_last (st : St) (p : Int) : (freeS st p).2.last = st.last := by
  unfold freeS
  split
  · rfl
  · split <;> rfl

theorem freeAll_last (st : St) : ∀ k, (freeAll st k).last = st.last := by
  intro k
  induction k with
  | zero => rfl
  | succ k ih => rw [freeAll_next, free_last, ih]

/-- A state at a place, of a list that was handed back. -/
theorem sp_row_at {w : World} {B : Nat} {v : Value} {sp : List SpT} (h : SRow w B v sp) (q : Nat) (hq : q < sp.length) : ∃ b o c, v = .slice (some ⟨b, o, none⟩) sp.length c ∧ w.cell? ⟨b, o + q * 2, none⟩ = some (.int .i64 (spAt sp q).1) ∧ w.cell? ⟨b, o + q * 2 + 1, none⟩ = some (.int .i64 (spAt sp q).2) := by
  obtain ⟨la, c, rfl, hr⟩ := h.recs
  obtain ⟨b, o, rfl, c0, c1⟩ := sp_at2 hr q hq
  exact ⟨b, o, c, rfl, c0, c1⟩

theorem sp_row_at2 {w : World} {B : Nat} {la : Option Addr} {q lc : Nat} {sp : List SpT} (h : SRow w B (.slice la q lc) sp) (j : Nat) (hj : j < sp.length) : ∃ b o, la = some ⟨b, o, none⟩ ∧ w.cell? ⟨b, o + j * 2, none⟩ = some (.int .i64 (spAt sp j).1) ∧ w.cell? ⟨b, o + j * 2 + 1, none⟩ = some (.int .i64 (spAt sp j).2) := by
  obtain ⟨b, o, c, e, c0, c1⟩ := sp_row_at h j hj
  simp only [Value.slice.injEq] at e
  obtain ⟨rfl, _, _⟩ := e
  exact ⟨b, o, rfl, c0, c1⟩

theorem id_at {w : World} {la : Option Addr} {m lc : Nat} {op : List HoldT} (h : HRow w (.slice la m lc) op) (j : Nat) (hj : j < op.length) : ∃ b o, la = some ⟨b, o, none⟩ ∧ w.cell? ⟨b, o + j * 6, none⟩ = some (.int .i64 (op[j]).1) := by
  obtain ⟨E, la', c', e, hE, hr, _, _⟩ := h
  have hl : E.length = op.length := by rw [← hE, List.length_map]
  have hjE : j < E.length := by omega
  obtain ⟨b, rfl, r⟩ := hr (by omega)
  simp only [Value.slice.injEq] at e
  obtain ⟨rfl, _, _⟩ := e
  have c0 := r.cell j 0 hjE (by omega)
  rw [rc_eq _ _ hjE] at c0
  have hx : E[j].1 = op[j] := by
    have : (E.map (·.1))[j]? = some op[j] := by rw [hE]; exact List.getElem?_eq_getElem hj
    rw [List.getElem?_map, List.getElem?_eq_getElem hjE] at this
    simpa using this
  refine ⟨b, 0, rfl, ?_⟩
  rw [← hx, Nat.zero_add]
  exact c0

set_option maxRecDepth 100000 in
set_option maxHeartbeats 6400000 in
theorem frees_any (p : Nat) (hp : p ≤ 255) (ra : Option Addr) (n c B : Nat) (rs : List OpR) (w : World) (h : Recs OpE w ra n rs) (ho : OpsIn w B rs) (hn : n ≤ 9223372036854775807) :
    Calls Tryd.prog 7 #[.int .u8 p, .slice ra n c] w fun e w' => e = .returned (.bool true) ∧ Below w.heap.size w w' := by
  have HM := Lib.hid h
  have HO := Lib.hid ho
  have hlen := h.1
  clear h ho
  go_enter Tryd.func7, Tryd.ntmps7
  go_wp2_with fail
  refine (head_any w).mono ?_
  rintro e w1 ⟨rfl, hb1⟩
  have HB1 := Lib.hid hb1
  clear hb1
  go_wp2_with fail
  refine (few_any ra n c B rs w1 (HM.out.below HB1.out) (HO.out.below HB1.out) hn).mono ?_
  rintro e w' ⟨rfl, rfl⟩
  cases hf : fewB (rs.map (·.1))
  · go_wp2_with fail
    go_ret
    exact ⟨rfl, HB1.out⟩
  have HF := Lib.hid (fewB_iff.mp hf)
  have hn40 : n ≤ 40 := by have := HF.out.2; simp at this; omega
  clear hf
  have hmod : (p : Int) % 21 = ((p % 21 : Nat) : Int) := by omega
  have hq : p % 21 < 21 := Nat.mod_lt _ (by omega)
  obtain ⟨q, hqq⟩ : ∃ q, q = p % 21 := ⟨_, rfl⟩
  rw [← hqq] at hmod hq
  clear hqq
  go_wp2_with fail
  refine (hs_new w1 q (by omega)).mono ?_
  rintro e w2 ⟨g, M, sb, rfl, hb, hh, hown⟩
  have H2 : Hid (Hd w1 w2 g M sb (newS q)) := ⟨hb, hh, hown⟩
  clear hb hh hown hmod
  go_wp2_with fail
  go_loopw [7, 8, 9, 10, 11] (fun v7 v8 v9 v10 v11 wr => ∃ i : Nat, v7 = .int .i64 i ∧ i ≤ n ∧ Hid (Hd w1 wr g M sb (playS nameS (newS q) ((rs.map (·.1)).take i)))) (fun v7 _ _ _ _ _ => n - (intOf v7).toNat)
  case atStart => exact ⟨0, rfl, Nat.zero_le _, H2.out⟩
  case round =>
    obtain ⟨i, rfl, hi, HH⟩ := hrel
    have hI := play_inv (nm := nameS) ((rs.map (·.1)).take i) (new_inv q)
    have hla := play_last (nm := nameS) ((rs.map (·.1)).take i) (new_inv q)
    have hsp := play_len (nm := nameS) ((rs.map (·.1)).take i) (newS q)
    rw [new_len] at hsp
    have hla2 : (playS nameS (newS q) ((rs.map (·.1)).take i)).last ≤ 40 := by
      have h0 : (newS q).last = 0 := rfl
      rw [h0, List.length_take, List.length_map] at hla
      omega
    clear hla
    by_cases hlt : i < n
    · have hiE : i < rs.length := by omega
      have HB : Hid (Below w.heap.size w wr) := HB1.out.trans (HH.out.below.mono HB1.out.size)
      obtain ⟨b, o, rfl, _⟩ := op_at (HM.out.below HB.out) i hlt hiE
      have HCE : Hid (∀ wx, Below w.heap.size w wx → wx.cell? ⟨b, o + i * 5, none⟩ = some (.int .i64 rs[i].1.1) ∧ wx.cell? ⟨b, o + i * 5 + 1, none⟩ = some (.string (bs rs[i].1.2.1)) ∧ wx.cell? ⟨b, o + i * 5 + 2, none⟩ = some (.slice rs[i].2.1 rs[i].1.2.2.1.length rs[i].2.2) ∧
          wx.cell? ⟨b, o + i * 5 + 3, none⟩ = some (.int .i64 rs[i].1.2.2.2.1) ∧ wx.cell? ⟨b, o + i * 5 + 4, none⟩ = some (.int .i64 rs[i].1.2.2.2.2)) := fun wx hb => by
        obtain ⟨b', o', e, c⟩ := op_at (HM.out.below hb) i hlt hiE
        cases e
        exact c
      obtain ⟨hwf, hin, _⟩ := HO.out _ (List.getElem_mem hiE)
      have hfw := HF.out.1 _ (List.mem_map_of_mem (List.getElem_mem hiE))
      have HN : Hid (playS nameS (newS q) ((rs.map (·.1)).take (i + 1)) = (doS nameS (playS nameS (newS q) ((rs.map (·.1)).take i)) rs[i].1).2) := by
        show _ = _
        have := play_take (nm := nameS) (st := newS q) (l := rs.map (·.1)) (i := i) (by simpa using hiE)
        simpa using this
      obtain ⟨st, hst⟩ : ∃ st, st = playS nameS (newS q) ((rs.map (·.1)).take i) := ⟨_, rfl⟩
      rw [← hst] at hI hsp hla2 HH HN
      have HC : Hid (∀ wx, Hd w1 wx g M sb st → Calls Tryd.prog 14 #[.pointer (some ⟨g, 0, none⟩), .agg #[.int .i64 rs[i].1.1, .string (bs rs[i].1.2.1), .slice rs[i].2.1 rs[i].1.2.2.1.length rs[i].2.2, .int .i64 rs[i].1.2.2.2.1, .int .i64 rs[i].1.2.2.2.2]] wx (DoPost g M sb st rs[i].1 wx)) := fun wx hx =>
        do_any wx g M sb st rs[i].1.1 rs[i].1.2.1 rs[i].1.2.2.1 rs[i].1.2.2.2.1 rs[i].1.2.2.2.2 rs[i].2.1 rs[i].1.2.2.1.length rs[i].2.2 hx.hs (by omega) (by omega) (by omega) (by omega) hwf.1
          (fun wy hu => hin.below (HB1.out.trans ((Upd.below hx.below hu hx.own).mono HB1.out.size)))
      have HI := Lib.hid hI
      clear hwf hin hfw hst hI
      generalize rs[i] = x at *
      obtain ⟨⟨k, t, L, id, cl⟩, pa, pc⟩ := x
      dsimp only at HCE HC HN
      clear hiE
      go_wp2_with fail
      refine (hs_spaces HH.out.hs (by omega)).mono ?_
      rintro e w3 ⟨v8, rfl, hb3, _, hr3⟩
      have H3 := Lib.hid (HH.out.next hb3)
      have R3 := Lib.hid hr3
      have HBW3 : Hid (Below w.heap.size w w3) := HB1.out.trans (H3.out.below.mono HB1.out.size)
      have HSB : Hid (∀ i, Own3 g M sb i → i < wr.heap.size) := fun i hi => HH.out.hs.lt hi
      obtain ⟨c0, c1, c2, c3, c4⟩ := HCE.out w3 HBW3.out
      clear hb3 hr3
      go_wp2_with fail
      refine (HC.out w3 H3.out).mono ?_
      rintro e w4 ⟨vd, rfl, _, hh, hu⟩
      have H4 := Lib.hid (H3.out.step hh hu)
      have R4 := Lib.hid (R3.out.keep HSB.out hu)
      clear hh hu c0 c1 c2 c3 c4 R3
      have hlen' : (doS nameS st (k, t, L, id, cl)).2.sp.length = q := by rw [do_len]; exact hsp
      go_wp2_with fail
      refine (hs_spaces H4.out.hs (by omega)).mono ?_
      rintro e w5 ⟨v9, rfl, hb5, _, hr5⟩
      have H5 := Lib.hid (H4.out.next hb5)
      have R5 := Lib.hid hr5
      have R45 := Lib.hid (R4.out.below hb5)
      obtain ⟨la, lc, rfl, RA0⟩ := R45.out.recs
      obtain ⟨lb, lc2, rfl, RB0⟩ := R5.out.recs
      rw [hsp] at RA0 ⊢
      rw [hlen'] at RB0 ⊢
      have RA := Lib.hid RA0
      have RB := Lib.hid RB0
      have HB5 : Hid (Below w.heap.size w w5) := HB1.out.trans (H5.out.below.mono HB1.out.size)
      have HSOLD : Hid (∀ j : Nat, ¬ ((k < 0 ∨ 4 < k) ∧ id = (j : Int)) → (spAt st.sp j).1 = 2 → spAt (doS nameS st (k, t, L, id, cl)).2.sp j = spAt st.sp j) := fun j hf hs => do_sold HI.out hs hf
      clear hb5 hr5 R45 R5 R4 RA0 RB0 hsp hlen'
      go_wp2_with fail
      go_loopw [10, 11] (fun v10 v11 wr => ∃ j : Nat, v10 = .int .i64 j ∧ j ≤ q ∧ Hid (Quiet w5 wr)) (fun v10 _ _ => q - (intOf v10).toNat)
      case atStart => exact ⟨0, rfl, Nat.zero_le _, Quiet.refl _⟩
      case round =>
        obtain ⟨j, rfl, hj, HQ⟩ := hrel
        by_cases hjq : j < q
        · obtain ⟨c0, _, _, c3, _⟩ := HCE.out wr (HB5.out.trans (HQ.out.below.mono HB5.out.size))
          obtain ⟨b1, o1, rfl, x0, x1⟩ := sp_at2 (RA.out.below HQ.out.below) j hjq
          obtain ⟨b2, o2, rfl, y0, y1⟩ := sp_at2 (RB.out.below HQ.out.below) j hjq
          have HS := Lib.hid (HSOLD.out j)
          have hd : decide (q ≤ j) = false := by simp; omega
          generalize spAt (doS nameS st (k, t, L, id, cl)).2.sp j = y at *
          generalize spAt st.sp j = x at *
          obtain ⟨xa, xb⟩ := x
          obtain ⟨ya, yb⟩ := y
          dsimp only at x0 x1 y0 y1 HS
          by_cases hk0 : k < 0
          · by_cases hid : id = (j : Int)
            · have hbi : (id == (j : Int)) = true := by simp [hid]
              by_cases h2 : xa = 2
              · have hb2 : (xa == 2) = true := by simp [h2]
                clear h2 HS
                go_upto_region 15 with fail
                go_region
                go_wp2_with fail
                go_roundw
                case rel => exact ⟨j + 1, by go_num, by omega, HQ.out.next⟩
                case measure => simp [intOf]; omega
              · have hb2 : (xa == 2) = false := by simp [h2]
                clear h2 HS
                go_upto_region 15 with fail
                go_region
                go_wp2_with fail
                go_roundw
                case rel => exact ⟨j + 1, by go_num, by omega, HQ.out.next⟩
                case measure => simp [intOf]; omega
            · have hbi : (id == (j : Int)) = false := by simp [hid]
              by_cases h2 : xa = 2
              · have hxy := HS.out (fun h => hid h.2) h2
                simp only [Prod.mk.injEq] at hxy
                obtain ⟨rfl, rfl⟩ := hxy
                have hb2 : (ya == 2) = true := by simp [h2]
                clear h2 HS
                go_upto_region 15 with fail
                go_region
                go_wp2_with fail
                go_roundw
                case rel => exact ⟨j + 1, by go_num, by omega, HQ.out.next⟩
                case measure => simp [intOf]; omega
              · have hb2 : (xa == 2) = false := by simp [h2]
                clear h2 HS
                go_upto_region 15 with fail
                go_region
                go_wp2_with fail
                go_roundw
                case rel => exact ⟨j + 1, by go_num, by omega, HQ.out.next⟩
                case measure => simp [intOf]; omega
          by_cases hk4 : 4 < k
          · by_cases hid : id = (j : Int)
            · have hbi : (id == (j : Int)) = true := by simp [hid]
              by_cases h2 : xa = 2
              · have hb2 : (xa == 2) = true := by simp [h2]
                clear h2 HS
                go_upto_region 15 with fail
                go_region
                go_wp2_with fail
                go_roundw
                case rel => exact ⟨j + 1, by go_num, by omega, HQ.out.next⟩
                case measure => simp [intOf]; omega
              · have hb2 : (xa == 2) = false := by simp [h2]
                clear h2 HS
                go_upto_region 15 with fail
                go_region
                go_wp2_with fail
                go_roundw
                case rel => exact ⟨j + 1, by go_num, by omega, HQ.out.next⟩
                case measure => simp [intOf]; omega
            · have hbi : (id == (j : Int)) = false := by simp [hid]
              by_cases h2 : xa = 2
              · have hxy := HS.out (fun h => hid h.2) h2
                simp only [Prod.mk.injEq] at hxy
                obtain ⟨rfl, rfl⟩ := hxy
                have hb2 : (ya == 2) = true := by simp [h2]
                clear h2 HS
                go_upto_region 15 with fail
                go_region
                go_wp2_with fail
                go_roundw
                case rel => exact ⟨j + 1, by go_num, by omega, HQ.out.next⟩
                case measure => simp [intOf]; omega
              · have hb2 : (xa == 2) = false := by simp [h2]
                clear h2 HS
                go_upto_region 15 with fail
                go_region
                go_wp2_with fail
                go_roundw
                case rel => exact ⟨j + 1, by go_num, by omega, HQ.out.next⟩
                case measure => simp [intOf]; omega
          by_cases h2 : xa = 2
          · have hxy := HS.out (fun h => by omega) h2
            simp only [Prod.mk.injEq] at hxy
            obtain ⟨rfl, rfl⟩ := hxy
            have hb2 : (ya == 2) = true := by simp [h2]
            clear h2 HS
            go_upto_region 15 with fail
            go_region
            go_wp2_with fail
            go_roundw
            case rel => exact ⟨j + 1, by go_num, by omega, HQ.out.next⟩
            case measure => simp [intOf]; omega
          · have hb2 : (xa == 2) = false := by simp [h2]
            clear h2 HS
            go_upto_region 15 with fail
            go_region
            go_wp2_with fail
            go_roundw
            case rel => exact ⟨j + 1, by go_num, by omega, HQ.out.next⟩
            case measure => simp [intOf]; omega
        · have hj' : j = q := by omega
          subst hj'
          go_wp2_with fail
          go_roundw
          case rel => exact ⟨i + 1, by go_num, hlt, by show Hd _ _ _ _ _ _; rw [HN.out]; exact H5.out.next HQ.out.below⟩
          case measure => simp [intOf]; omega
    · have hi' : i = n := by omega
      subst hi'
      have hT : (rs.map (·.1)).take i = rs.map (·.1) := List.take_of_length_le (by simp; omega)
      rw [hT] at HH hI hsp hla2
      obtain ⟨st, hst⟩ : ∃ st, st = playS nameS (newS q) (rs.map (·.1)) := ⟨_, rfl⟩
      rw [← hst] at hI hsp hla2 HH
      have HI := Lib.hid hI
      have hol := inv_len hI
      clear hT hst hI H2
      obtain ⟨wo, rfl⟩ : ∃ wo : World, wo = wr := ⟨_, rfl⟩
      go_wp2_with fail
      refine (hs_list HH.out.hs (by omega)).mono ?_
      rintro e w3 ⟨vl, rfl, hb3, _, hr3⟩
      have H3 := Lib.hid (HH.out.next hb3)
      have R3 := Lib.hid hr3
      obtain ⟨E, la, lc, rfl, hE, _, _⟩ := hr3
      have hEl : E.length = st.op.length := by rw [← hE, List.length_map]
      rw [hEl] at R3 ⊢
      obtain ⟨m, hm⟩ : ∃ m, m = st.op.length := ⟨_, rfl⟩
      rw [← hm] at R3 hol ⊢
      have HMM := Lib.hid hm
      clear hb3 hE hEl hm
      go_wp2_with fail
      go_loopw [13] (fun v13 wr => ∃ j : Nat, v13 = .int .i64 j ∧ j ≤ m ∧ Hid (Hd w1 wr g M sb (endAll st ((st.op.map (·.1)).take j))) ∧ Hid (HRow wr (.slice la m lc) st.op)) (fun v13 _ => m - (intOf v13).toNat)
      case atStart => exact ⟨0, rfl, Nat.zero_le _, H3.out, R3.out⟩
      case round =>
        obtain ⟨j, rfl, hj, HJ, HR⟩ := hrel
        by_cases hjm : j < m
        · have hjo : j < st.op.length := by rw [← HMM.out]; exact hjm
          obtain ⟨b, o, e1, c0⟩ := id_at HR.out j hjo
          subst e1
          have hid := HI.out.rng _ (List.getElem_mem hjo)
          have HC := Lib.hid (hs_release HJ.out.hs (st.op[j]).1 (by simp only [Lit.wf, show IntKind.i64.min = -9223372036854775808 from by decide, show IntKind.i64.max = 9223372036854775807 from by decide]; simp; omega))
          have hnx := release_next HI.out hjo
          rw [hnx] at HC
          have HN : Hid (endAll st ((st.op.map (·.1)).take (j + 1)) = (endS (endAll st ((st.op.map (·.1)).take j)) (st.op[j]).1 (0, 0)).2) := by
            show _ = _
            rw [endAll_snoc st (by simpa using hjo), ix_get (by simpa using hjo)]
            simp
          generalize (st.op[j]).1 = id at *
          clear hid hnx hjo
          go_wp2_with fail
          refine HC.out.mono ?_
          rintro e w4 ⟨rfl, hh, hu⟩
          have H4 := Lib.hid (HJ.out.step hh hu)
          have R4 := Lib.hid (HR.out.keep HJ.out.hs hu)
          clear hh hu c0 HC
          go_wp2_with fail
          refine ⟨⟨j + 1, by go_num, hjm, ?_, R4.out⟩, by simp [intOf]; omega⟩
          show Hd _ _ _ _ _ _
          rw [HN.out]
          exact H4.out
        · have hj' : j = m := by omega
          subst hj'
          have hT : (st.op.map (·.1)).take j = st.op.map (·.1) := List.take_of_length_le (by rw [List.length_map, ← HMM.out]; exact Nat.le_refl _)
          rw [hT] at HJ
          obtain ⟨hr1, hr2⟩ := released HI.out
          have hrl := endAll_is (st.op.map (·.1)) HI.out
          have hrI := endAll_inv (st.op.map (·.1)) HI.out
          obtain ⟨sR, hsR⟩ : ∃ sR, sR = endAll st (st.op.map (·.1)) := ⟨_, rfl⟩
          rw [← hsR] at HJ hr1 hr2 hrl hrI
          have hspR : sR.sp.length = q := by rw [hrl.2.2.1]; exact hsp
          have hlaR : sR.last ≤ 40 := by rw [hrl.2.1]; exact hla2
          have HR1 := Lib.hid hr1
          have HR2 : Hid (∀ q', q' < q → (spAt sR.sp q').1 ≠ 1) := fun q' h => hr2 q' (by rw [hsp]; exact h)
          have HRI := Lib.hid hrI
          have HSR := Lib.hid hspR
          clear hT hr1 hr2 hrl hrI hsR hspR hsp
          obtain ⟨wo2, rfl⟩ : ∃ wo2 : World, wo2 = wr := ⟨_, rfl⟩
          go_wp2_with fail
          refine (hs_spaces HJ.out.hs (by rw [HSR.out]; omega)).mono ?_
          rintro e w4 ⟨vs, rfl, hb4, _, hr4⟩
          have H4 := Lib.hid (HJ.out.next hb4)
          have HSB : Hid (∀ i, Own3 g M sb i → i < wo2.heap.size) := fun i hi => HJ.out.hs.lt hi
          have R4 := Lib.hid hr4
          obtain ⟨ls, lsc, rfl, _⟩ := hr4
          rw [HSR.out] at R4 ⊢
          clear hb4 HJ HR
          go_wp2_with fail
          go_loopw [15] (fun v15 wr => ∃ j : Nat, v15 = .int .i64 j ∧ j ≤ q ∧ Hid (Hd w1 wr g M sb (freeAll sR j)) ∧ Hid (SRow wr wo2.heap.size (.slice ls q lsc) sR.sp)) (fun v15 _ => q - (intOf v15).toNat)
          case atStart => exact ⟨0, rfl, Nat.zero_le _, H4.out, R4.out⟩
          case round =>
            obtain ⟨j, rfl, hj, HJ, HR⟩ := hrel
            by_cases hjq : j < q
            · have hjs : j < sR.sp.length := by rw [HSR.out]; exact hjq
              obtain ⟨b, o, e1, c0, c1⟩ := sp_row_at2 HR.out j hjs
              subst e1
              have hfr := free_res sR hjs
              have hx : (spAt sR.sp j).1 = 2 ∧ (freeS (freeAll sR j) (j : Int)).1 = 0 ∨ (spAt sR.sp j).1 = 0 ∧ (freeS (freeAll sR j) (j : Int)).1 = 12 := by
                have hfl := (freeAll_is sR j (by omega)).1
                rcases HRI.out.stt j hjs with h | h | h
                · right
                  rw [h.1] at hfr
                  refine ⟨h.1, ?_⟩
                  unfold freeS at hfr ⊢
                  rw [if_neg (by unfold inR; simp; omega)] at hfr ⊢
                  split
                  · rfl
                  · rename_i h2
                    rw [if_neg h2] at hfr
                    simp at hfr
                · exact absurd h (HR2.out j hjq)
                · left
                  rw [h] at hfr
                  refine ⟨h, ?_⟩
                  simpa using hfr
              have HX := Lib.hid hx
              have HC := Lib.hid (hs_free (w := wr.drew) (HJ.out.hs.below (Below.refl _ _).drew) (j : Int))
              have HN := Lib.hid (freeAll_next sR j)
              have hs1 : wr.cell? ⟨b, o + j * 2, none⟩ = some (.int .i64 (spAt sR.sp j).1) := c0
              have HRd : Hid (SRow wr.drew wo2.heap.size (.slice (some ⟨b, o, none⟩) q lsc) sR.sp) := HR.out.below (Below.refl _ _).drew
              have HCELL : Hid (∀ wx, Upd (Own3 g M sb) wr.drew wx → wx.cell? ⟨b, o + j * 2, none⟩ = some (.int .i64 (spAt sR.sp j).1)) := fun wx hu => by
                obtain ⟨b', o', e, c, _⟩ := sp_row_at2 (HRd.out.keep HSB.out hu) j hjs
                cases e
                exact c
              have HU1 : Hid (∀ wx, Upd (Own3 g M sb) wr.drew wx → Hd w1 wx g M sb (freeAll sR (j + 1)) → Hd w1 wx g M sb (freeAll sR (j + 1)) ∧ SRow wx wo2.heap.size (.slice (some ⟨b, o, none⟩) q lsc) sR.sp) := fun wx hu hd => ⟨hd, HRd.out.keep HSB.out hu⟩
              clear hx hfr c0 c1 hjs
              generalize (spAt sR.sp j).1 = x at *
              rcases HX.out with ⟨rfl, h2⟩ | ⟨rfl, h2⟩
              · rw [h2] at HC
                clear h2 HX
                go_upto_region 27 with fail
                refine wp_region_held_drew (S := fun w' => w'.cell? ⟨b, o + j * 2, none⟩ = some (.int .i64 2)) (by kernel_rfl) hs1 (fun hHeld => ?_)
                clear hs1
                refine take_at (i := 0) (v := ?_) 122 rfl rfl (by kernel_rfl) (by kernel_rfl) (by kernel_rfl) (fun _ _ _ h => h) (Or.inl ⟨by rfl, ?_⟩) (by assumption) ?_
                rotate_left
                · intro w hSw; go_simp <;> with_reducible rfl
                try simp only [Act.put, List.setIfInBounds_toArray, List.set_cons_zero, List.set_cons_succ]
                refine take_at (i := 1) (v := ?_) 123 rfl rfl (by kernel_rfl) (by kernel_rfl) (by kernel_rfl) (fun _ _ _ h => h) (Or.inl ⟨by rfl, ?_⟩) (by assumption) ?_
                rotate_left
                · intro w hSw; go_simp <;> with_reducible rfl
                try simp only [Act.put, List.setIfInBounds_toArray, List.set_cons_zero, List.set_cons_succ]
                refine take_at (i := 4) (v := ?_) 126 rfl rfl (by kernel_rfl) (by kernel_rfl) (by kernel_rfl) (fun _ _ _ h => h) (Or.inl ⟨by rfl, ?_⟩) (by assumption) ?_
                rotate_left
                · intro w hSw; go_simp <;> with_reducible rfl
                try simp only [Act.put, List.setIfInBounds_toArray, List.set_cons_zero, List.set_cons_succ]
                refine take_at (i := 5) (v := ?_) 127 rfl rfl (by kernel_rfl) (by kernel_rfl) (by kernel_rfl) (fun _ _ _ h => h) (Or.inl ⟨by rfl, ?_⟩) (by assumption) ?_
                rotate_left
                · intro w hSw; go_simp <;> with_reducible rfl
                try simp only [Act.put, List.setIfInBounds_toArray, List.set_cons_zero, List.set_cons_succ]
                refine take_at (i := 6) (v := ?_) 128 rfl rfl (by kernel_rfl) (by kernel_rfl) (by kernel_rfl) (fun _ _ _ h => h) (Or.inl ⟨by rfl, ?_⟩) (by assumption) ?_
                rotate_left
                · intro w hSw; go_simp <;> with_reducible rfl
                try simp only [Act.put, List.setIfInBounds_toArray, List.set_cons_zero, List.set_cons_succ]
                refine take_at (i := 7) (v := ?_) 129 rfl rfl (by kernel_rfl) (by kernel_rfl) (by kernel_rfl) (fun _ _ _ h => h) (Or.inl ⟨by rfl, ?_⟩) (by assumption) ?_
                rotate_left
                · intro w hSw; go_simp <;> with_reducible rfl
                try simp only [Act.put, List.setIfInBounds_toArray, List.set_cons_zero, List.set_cons_succ]
                refine take_at (i := 8) (v := ?_) 130 rfl rfl (by kernel_rfl) (by kernel_rfl) (by kernel_rfl) (fun _ _ _ h => h) (Or.inl ⟨by rfl, ?_⟩) (by assumption) ?_
                rotate_left
                · intro w hSw; go_simp <;> with_reducible rfl
                try simp only [Act.put, List.setIfInBounds_toArray, List.set_cons_zero, List.set_cons_succ]
                refine take_at (i := 9) (v := ?_) 131 rfl rfl (by kernel_rfl) (by kernel_rfl) (by kernel_rfl) (fun _ _ _ h => h) (Or.inl ⟨by rfl, ?_⟩) (by assumption) ?_
                rotate_left
                · intro w hSw; go_simp <;> with_reducible rfl
                try simp only [Act.put, List.setIfInBounds_toArray, List.set_cons_zero, List.set_cons_succ]
                refine wpAnyH_ready (rs := [2]) (by kernel_rfl) (by simp) ?_
                refine AllReadyH.cons rfl (fun K' hK => ?_) AllReadyH.nil
                go_simp
                refine HC.out.mono ?_
                rintro e w5 ⟨rfl, hh, hu⟩
                have H5 : Hid (Hd w1 w5 g M sb (freeAll sR (j + 1))) := by
                  show Hd _ _ _ _ _ _
                  rw [HN.out]
                  exact (HJ.out.next (Below.refl _ _).drew).step hh hu
                have HS5 := Lib.hid (HCELL.out w5 hu)
                have HU5 := Lib.hid hu
                clear hh hu HC
                go_simp
                refine hK.out _ _ (HS5.out) (fun hHeld => ?_)
                clear hK K'
                try simp only [Act.put, List.setIfInBounds_toArray, List.set_cons_zero, List.set_cons_succ]
                refine take_at (i := 3) (v := ?_) 125 rfl rfl (by kernel_rfl) (by kernel_rfl) (by kernel_rfl) (fun _ _ _ h => h) (Or.inl ⟨by rfl, ?_⟩) (by assumption) ?_
                rotate_left
                · intro w hSw; go_simp <;> with_reducible rfl
                try simp only [Act.put, List.setIfInBounds_toArray, List.set_cons_zero, List.set_cons_succ]
                refine take_at (i := 10) (v := ?_) 132 rfl rfl (by kernel_rfl) (by kernel_rfl) (by kernel_rfl) (fun _ _ _ h => h) (Or.inl ⟨by rfl, ?_⟩) (by assumption) ?_
                rotate_left
                · intro w hSw; go_simp <;> with_reducible rfl
                try simp only [Act.put, List.setIfInBounds_toArray, List.set_cons_zero, List.set_cons_succ]
                refine take_at (i := 11) (v := ?_) 133 rfl rfl (by kernel_rfl) (by kernel_rfl) (by kernel_rfl) (fun _ _ _ h => h) (Or.inl ⟨by rfl, ?_⟩) (by assumption) ?_
                rotate_left
                · intro w hSw; go_simp <;> with_reducible rfl
                try simp only [Act.put, List.setIfInBounds_toArray, List.set_cons_zero, List.set_cons_succ]
                refine take_at (i := 12) (v := ?_) 134 rfl rfl (by kernel_rfl) (by kernel_rfl) (by kernel_rfl) (fun _ _ _ h => h) (Or.inl ⟨by rfl, ?_⟩) (by assumption) ?_
                rotate_left
                · intro w hSw; go_simp <;> with_reducible rfl
                try simp only [Act.put, List.setIfInBounds_toArray, List.set_cons_zero, List.set_cons_succ]
                refine take_at (i := 13) (v := ?_) 135 rfl rfl (by kernel_rfl) (by kernel_rfl) (by kernel_rfl) (fun _ _ _ h => h) (Or.inl ⟨by rfl, ?_⟩) (by assumption) ?_
                rotate_left
                · intro w hSw; go_simp <;> with_reducible rfl
                try simp only [Act.put, List.setIfInBounds_toArray, List.set_cons_zero, List.set_cons_succ]
                refine take_at (i := 14) (v := ?_) 136 rfl rfl (by kernel_rfl) (by kernel_rfl) (by kernel_rfl) (fun _ _ _ h => h) (Or.inl ⟨by rfl, ?_⟩) (by assumption) ?_
                rotate_left
                · intro w hSw; go_simp <;> with_reducible rfl
                try simp only [Act.put, List.setIfInBounds_toArray, List.set_cons_zero, List.set_cons_succ]
                refine take_at (i := 15) (v := ?_) 137 rfl rfl (by kernel_rfl) (by kernel_rfl) (by kernel_rfl) (fun _ _ _ h => h) (Or.inl ⟨by rfl, ?_⟩) (by assumption) ?_
                rotate_left
                · intro w hSw; go_simp <;> with_reducible rfl
                try simp only [Act.put, List.setIfInBounds_toArray, List.set_cons_zero, List.set_cons_succ]
                refine take_at (i := 16) (v := ?_) 138 rfl rfl (by kernel_rfl) (by kernel_rfl) (by kernel_rfl) (fun _ _ _ h => h) (Or.inl ⟨by rfl, ?_⟩) (by assumption) ?_
                rotate_left
                · intro w hSw; go_simp <;> with_reducible rfl
                try simp only [Act.put, List.setIfInBounds_toArray, List.set_cons_zero, List.set_cons_succ]
                refine take_at (i := 17) (v := ?_) 139 rfl rfl (by kernel_rfl) (by kernel_rfl) (by kernel_rfl) (fun _ _ _ h => h) (Or.inl ⟨by rfl, ?_⟩) (by assumption) ?_
                rotate_left
                · intro w hSw; go_simp <;> with_reducible rfl
                try simp only [Act.put, List.setIfInBounds_toArray, List.set_cons_zero, List.set_cons_succ]
                refine take_at (i := 18) (v := ?_) 140 rfl rfl (by kernel_rfl) (by kernel_rfl) (by kernel_rfl) (fun _ _ _ h => h) (Or.inl ⟨by rfl, ?_⟩) (by assumption) ?_
                rotate_left
                · intro w hSw; go_simp <;> with_reducible rfl
                try simp only [Act.put, List.setIfInBounds_toArray, List.set_cons_zero, List.set_cons_succ]
                refine wpAnyH_done (by kernel_rfl) ?_ _
                clear hHeld
                go_wp2_with fail
                go_roundw
                case rel => exact ⟨j + 1, by go_num, by omega, HU1.out w5 HU5.out H5.out⟩
                case measure => simp [intOf]; omega
              · rw [h2] at HC
                clear h2 HX
                go_upto_region 27 with fail
                refine wp_region_held_drew (S := fun w' => w'.cell? ⟨b, o + j * 2, none⟩ = some (.int .i64 0)) (by kernel_rfl) hs1 (fun hHeld => ?_)
                clear hs1
                refine take_at (i := 0) (v := ?_) 122 rfl rfl (by kernel_rfl) (by kernel_rfl) (by kernel_rfl) (fun _ _ _ h => h) (Or.inl ⟨by rfl, ?_⟩) (by assumption) ?_
                rotate_left
                · intro w hSw; go_simp <;> with_reducible rfl
                try simp only [Act.put, List.setIfInBounds_toArray, List.set_cons_zero, List.set_cons_succ]
                refine take_at (i := 1) (v := ?_) 123 rfl rfl (by kernel_rfl) (by kernel_rfl) (by kernel_rfl) (fun _ _ _ h => h) (Or.inl ⟨by rfl, ?_⟩) (by assumption) ?_
                rotate_left
                · intro w hSw; go_simp <;> with_reducible rfl
                try simp only [Act.put, List.setIfInBounds_toArray, List.set_cons_zero, List.set_cons_succ]
                refine take_at (i := 4) (v := ?_) 126 rfl rfl (by kernel_rfl) (by kernel_rfl) (by kernel_rfl) (fun _ _ _ h => h) (Or.inl ⟨by rfl, ?_⟩) (by assumption) ?_
                rotate_left
                · intro w hSw; go_simp <;> with_reducible rfl
                try simp only [Act.put, List.setIfInBounds_toArray, List.set_cons_zero, List.set_cons_succ]
                refine take_at (i := 5) (v := ?_) 127 rfl rfl (by kernel_rfl) (by kernel_rfl) (by kernel_rfl) (fun _ _ _ h => h) (Or.inl ⟨by rfl, ?_⟩) (by assumption) ?_
                rotate_left
                · intro w hSw; go_simp <;> with_reducible rfl
                try simp only [Act.put, List.setIfInBounds_toArray, List.set_cons_zero, List.set_cons_succ]
                refine take_at (i := 6) (v := ?_) 128 rfl rfl (by kernel_rfl) (by kernel_rfl) (by kernel_rfl) (fun _ _ _ h => h) (Or.inl ⟨by rfl, ?_⟩) (by assumption) ?_
                rotate_left
                · intro w hSw; go_simp <;> with_reducible rfl
                try simp only [Act.put, List.setIfInBounds_toArray, List.set_cons_zero, List.set_cons_succ]
                refine take_at (i := 7) (v := ?_) 129 rfl rfl (by kernel_rfl) (by kernel_rfl) (by kernel_rfl) (fun _ _ _ h => h) (Or.inl ⟨by rfl, ?_⟩) (by assumption) ?_
                rotate_left
                · intro w hSw; go_simp <;> with_reducible rfl
                try simp only [Act.put, List.setIfInBounds_toArray, List.set_cons_zero, List.set_cons_succ]
                refine take_at (i := 8) (v := ?_) 130 rfl rfl (by kernel_rfl) (by kernel_rfl) (by kernel_rfl) (fun _ _ _ h => h) (Or.inl ⟨by rfl, ?_⟩) (by assumption) ?_
                rotate_left
                · intro w hSw; go_simp <;> with_reducible rfl
                try simp only [Act.put, List.setIfInBounds_toArray, List.set_cons_zero, List.set_cons_succ]
                refine take_at (i := 9) (v := ?_) 131 rfl rfl (by kernel_rfl) (by kernel_rfl) (by kernel_rfl) (fun _ _ _ h => h) (Or.inl ⟨by rfl, ?_⟩) (by assumption) ?_
                rotate_left
                · intro w hSw; go_simp <;> with_reducible rfl
                try simp only [Act.put, List.setIfInBounds_toArray, List.set_cons_zero, List.set_cons_succ]
                refine wpAnyH_ready (rs := [2]) (by kernel_rfl) (by simp) ?_
                refine AllReadyH.cons rfl (fun K' hK => ?_) AllReadyH.nil
                go_simp
                refine HC.out.mono ?_
                rintro e w5 ⟨rfl, hh, hu⟩
                have H5 : Hid (Hd w1 w5 g M sb (freeAll sR (j + 1))) := by
                  show Hd _ _ _ _ _ _
                  rw [HN.out]
                  exact (HJ.out.next (Below.refl _ _).drew).step hh hu
                have HS5 := Lib.hid (HCELL.out w5 hu)
                have HU5 := Lib.hid hu
                clear hh hu HC
                go_simp
                refine hK.out _ _ (HS5.out) (fun hHeld => ?_)
                clear hK K'
                try simp only [Act.put, List.setIfInBounds_toArray, List.set_cons_zero, List.set_cons_succ]
                refine take_at (i := 3) (v := ?_) 125 rfl rfl (by kernel_rfl) (by kernel_rfl) (by kernel_rfl) (fun _ _ _ h => h) (Or.inl ⟨by rfl, ?_⟩) (by assumption) ?_
                rotate_left
                · intro w hSw; go_simp <;> with_reducible rfl
                try simp only [Act.put, List.setIfInBounds_toArray, List.set_cons_zero, List.set_cons_succ]
                refine take_at (i := 10) (v := ?_) 132 rfl rfl (by kernel_rfl) (by kernel_rfl) (by kernel_rfl) (fun _ _ _ h => h) (Or.inl ⟨by rfl, ?_⟩) (by assumption) ?_
                rotate_left
                · intro w hSw; go_simp <;> with_reducible rfl
                try simp only [Act.put, List.setIfInBounds_toArray, List.set_cons_zero, List.set_cons_succ]
                refine take_at (i := 11) (v := ?_) 133 rfl rfl (by kernel_rfl) (by kernel_rfl) (by kernel_rfl) (fun _ _ _ h => h) (Or.inl ⟨by rfl, ?_⟩) (by assumption) ?_
                rotate_left
                · intro w hSw; go_simp <;> with_reducible rfl
                try simp only [Act.put, List.setIfInBounds_toArray, List.set_cons_zero, List.set_cons_succ]
                refine take_at (i := 12) (v := ?_) 134 rfl rfl (by kernel_rfl) (by kernel_rfl) (by kernel_rfl) (fun _ _ _ h => h) (Or.inl ⟨by rfl, ?_⟩) (by assumption) ?_
                rotate_left
                · intro w hSw; go_simp <;> with_reducible rfl
                try simp only [Act.put, List.setIfInBounds_toArray, List.set_cons_zero, List.set_cons_succ]
                refine take_at (i := 13) (v := ?_) 135 rfl rfl (by kernel_rfl) (by kernel_rfl) (by kernel_rfl) (fun _ _ _ h => h) (Or.inl ⟨by rfl, ?_⟩) (by assumption) ?_
                rotate_left
                · intro w hSw; go_simp <;> with_reducible rfl
                try simp only [Act.put, List.setIfInBounds_toArray, List.set_cons_zero, List.set_cons_succ]
                refine take_at (i := 14) (v := ?_) 136 rfl rfl (by kernel_rfl) (by kernel_rfl) (by kernel_rfl) (fun _ _ _ h => h) (Or.inl ⟨by rfl, ?_⟩) (by assumption) ?_
                rotate_left
                · intro w hSw; go_simp <;> with_reducible rfl
                try simp only [Act.put, List.setIfInBounds_toArray, List.set_cons_zero, List.set_cons_succ]
                refine take_at (i := 15) (v := ?_) 137 rfl rfl (by kernel_rfl) (by kernel_rfl) (by kernel_rfl) (fun _ _ _ h => h) (Or.inl ⟨by rfl, ?_⟩) (by assumption) ?_
                rotate_left
                · intro w hSw; go_simp <;> with_reducible rfl
                try simp only [Act.put, List.setIfInBounds_toArray, List.set_cons_zero, List.set_cons_succ]
                refine take_at (i := 16) (v := ?_) 138 rfl rfl (by kernel_rfl) (by kernel_rfl) (by kernel_rfl) (fun _ _ _ h => h) (Or.inl ⟨by rfl, ?_⟩) (by assumption) ?_
                rotate_left
                · intro w hSw; go_simp <;> with_reducible rfl
                try simp only [Act.put, List.setIfInBounds_toArray, List.set_cons_zero, List.set_cons_succ]
                refine take_at (i := 17) (v := ?_) 139 rfl rfl (by kernel_rfl) (by kernel_rfl) (by kernel_rfl) (fun _ _ _ h => h) (Or.inl ⟨by rfl, ?_⟩) (by assumption) ?_
                rotate_left
                · intro w hSw; go_simp <;> with_reducible rfl
                try simp only [Act.put, List.setIfInBounds_toArray, List.set_cons_zero, List.set_cons_succ]
                refine take_at (i := 18) (v := ?_) 140 rfl rfl (by kernel_rfl) (by kernel_rfl) (by kernel_rfl) (fun _ _ _ h => h) (Or.inl ⟨by rfl, ?_⟩) (by assumption) ?_
                rotate_left
                · intro w hSw; go_simp <;> with_reducible rfl
                try simp only [Act.put, List.setIfInBounds_toArray, List.set_cons_zero, List.set_cons_succ]
                refine wpAnyH_done (by kernel_rfl) ?_ _
                clear hHeld
                go_wp2_with fail
                go_roundw
                case rel => exact ⟨j + 1, by go_num, by omega, HU1.out w5 HU5.out H5.out⟩
                case measure => simp [intOf]; omega
            · have hj' : j = q := by omega
              subst hj'
              obtain ⟨hf1, hf2, hf3⟩ := freeAll_is sR j (by rw [HSR.out]; exact Nat.le_refl _)
              have hfl := freeAll_last sR j
              have HZ : Hid (∀ q', q' < j → spAt (freeAll sR j).sp q' = (0, 0)) := fun q' hq' => by
                rw [hf3]
                by_cases h2 : (spAt sR.sp q').1 = 2
                · rw [if_pos ⟨hq', h2⟩]
                · rw [if_neg (fun h => h2 h.2)]
                  rcases HRI.out.stt q' (by rw [HSR.out]; exact hq') with h | h | h
                  · exact Prod.ext h.1 h.2
                  · exact absurd h (HR2.out q' hq')
                  · exact absurd h h2
              have hsF : (freeAll sR j).sp.length = j := by rw [hf1]; exact HSR.out
              have HSF := Lib.hid hsF
              have HFO : Hid ((freeAll sR j).op = []) := by show _ = _; rw [hf2]; exact HR1.out
              have hlF : (freeAll sR j).last ≤ 40 := by rw [hfl]; exact hlaR
              obtain ⟨sF, hsF'⟩ : ∃ sF, sF = freeAll sR j := ⟨_, rfl⟩
              rw [← hsF'] at HZ HSF HFO hlF HJ
              clear hf1 hf2 hf3 hfl hsF hsF' HR
              obtain ⟨wo3, rfl⟩ : ∃ wo3 : World, wo3 = wr := ⟨_, rfl⟩
              go_wp2_with fail
              refine (hs_spaces HJ.out.hs (by rw [HSF.out]; omega)).mono ?_
              rintro e w5 ⟨vs, rfl, hb5, _, hr5⟩
              have H5 := Lib.hid (HJ.out.next hb5)
              obtain ⟨lt, ltc, rfl, RT0⟩ := hr5.recs
              have RT := Lib.hid RT0
              rw [HSF.out] at RT ⊢
              clear hb5 hr5 HJ RT0
              go_wp2_with fail
              go_loopw [16] (fun v16 wr => ∃ m : Nat, v16 = .int .i64 m ∧ m ≤ j ∧ Hid (Quiet w5 wr)) (fun v16 _ => j - (intOf v16).toNat)
              case atStart => exact ⟨0, rfl, Nat.zero_le _, Quiet.refl _⟩
              case round =>
                obtain ⟨m2, rfl, hm2, HQ⟩ := hrel
                by_cases hmj : m2 < j
                · obtain ⟨b2, o2, rfl, x0, x1⟩ := sp_at2 (RT.out.below HQ.out.below) m2 hmj
                  rw [HZ.out m2 hmj] at x0 x1
                  dsimp only at x0 x1
                  go_wp2_with fail
                  exact ⟨⟨m2 + 1, by go_num, hmj, HQ.out⟩, by simp [intOf]; omega⟩
                · have hm' : m2 = j := by omega
                  subst hm'
                  have H6 := Lib.hid (H5.out.next HQ.out.below)
                  clear H5
                  obtain ⟨wo4, rfl⟩ : ∃ wo4 : World, wo4 = wr := ⟨_, rfl⟩
                  go_wp2_with fail
                  refine (hs_list H6.out.hs (by omega)).mono ?_
                  rintro e w6 ⟨v6, rfl, hb6, _, hr6⟩
                  obtain ⟨E, la, lc, rfl, hE, _, _⟩ := hr6
                  have hE0 : E.length = 0 := by have := congrArg List.length hE; rw [HFO.out] at this; simpa using this
                  rw [hE0]
                  have HB6 : Hid (Below w.heap.size w w6) := HB1.out.trans ((H6.out.next hb6).below.mono HB1.out.size)
                  clear hb6 hE hE0
                  go_wp2_with fail
                  go_ret
                  exact ⟨rfl, HB6.out⟩
end Go.Proofs.YtkdbenoleendcaaDoor
