/- hold: HoldOnes, the walk. -/
import Derived.Test.YtkdbenoleendcaaDoorT1
namespace Go.Proofs.YtkdbenoleendcaaDoor
open Go.RowKit Go.IntWalk Go.Maps Go.WideMaps

theorem make_ints (n : Nat) (hn : n ≤ 4000) : ∃ arr : Array Value, arr.size = n ∧ (∀ k, k < n → arr[k]? = some (.int .i64 0)) ∧
    ∀ w : World, (Instr.makeSlice 31 (.int .i64 (n : Int)) (.int .i64 (n : Int))).run Tryd.prog w = .ok (.slice (some ⟨w.heap.size, 0, none⟩) n n) (w.alloc (.cells arr 3)) := by
  refine ⟨madeCells #[.int .i64 0] n, size_madeCells _ _, fun k hk => ?_, fun w => ?_⟩
  · simp [madeCells, hk, Nat.mod_one]
  · exact run_make_row' 31 3 (.int .i64 0) 8 Tryd.underlying31 (by kernel_rfl) rfl .i64 .i64 n (by omega) (by omega) w

theorem row_made {w : World} {arr : Array Value} {T : TypeId} {n : Nat} (hs : arr.size = n) (hz : ∀ k, k < n → arr[k]? = some (.int .i64 0)) : IntRow (w.alloc (.cells arr T)) w.heap.size T (List.replicate n 0) := by
  refine ⟨arr, World.alloc_heap_new w _, by simp [hs], fun k hk => ?_⟩
  rw [List.length_replicate] at hk
  rw [hz k hk]
  simp [ix, List.getD_eq_getElem?_getD, hk]

/-- Which open hold each place is in, of the first i holds and the first k places of the next one. -/
def hD (op : List HoldT) (len i k : Nat) (id : Int) (L : List Int) : List Int := (List.range len).map fun (q : Nat) => if (q : Int) ∈ L.take k then id else heldW (op.take i) q

theorem hD_len (op : List HoldT) (len i k : Nat) (id : Int) (L : List Int) : (hD op len i k id L).length = len := by simp [hD]

theorem hD_at (op : List HoldT) (len i k : Nat) (id : Int) (L : List Int) (q : Nat) (hq : q < len) : ix (hD op len i k id L) q = if (q : Int) ∈ L.take k then id else heldW (op.take i) q := by
  rw [ix_get (by rw [hD_len]; exact hq)]
  simp [hD]

theorem hD_zero (op : List HoldT) (len : Nat) (id : Int) (L : List Int) : hD op len 0 0 id L = List.replicate len 0 := by
  refine List.ext_getElem (by rw [hD_len]; simp) fun q h1 h2 => ?_
  rw [hD_len] at h1
  simp [hD, heldW]

theorem hD_start (op : List HoldT) (len i : Nat) (id id' : Int) (L L' : List Int) : hD op len i 0 id L = hD op len i 0 id' L' := by
  unfold hD
  simp

section
variable {st : St} (hi : Inv st) {i : Nat} (h : i < st.op.length)
include hi h

theorem other_pl {y : HoldT} (hy : y ∈ st.op.take i) {p : Int} (h1 : p ∈ y.2.2.1) : p ∉ (st.op[i]).2.2.1 := fun h2 => by
  obtain ⟨j, hj, rfl⟩ := List.getElem_of_mem hy
  rw [List.length_take] at hj
  rw [List.getElem_take] at h1
  have := hi.apart (List.getElem_mem (by omega)) (List.getElem_mem h) h1 h2
  have h3 := List.pairwise_iff_getElem.mp hi.ids j i (by omega) h (by omega)
  rw [this] at h3
  omega

theorem hD_end : hD st.op st.sp.length i (st.op[i]).2.2.1.length (st.op[i]).1 (st.op[i]).2.2.1 = hD st.op st.sp.length (i + 1) 0 (st.op[i]).1 (st.op[i]).2.2.1 := by
  unfold hD
  refine List.map_congr_left fun q _ => ?_
  rw [List.take_length, List.take_zero, if_neg (by simp : ¬ (q : Int) ∈ ([] : List Int)), List.take_succ_eq_append_getElem h, heldW_snoc _ _ _ (fun y hy h1 => other_pl hi h hy h1)]

theorem pl_at {k : Nat} (hk : k < (st.op[i]).2.2.1.length) : ∃ q : Nat, ix (st.op[i]).2.2.1 k = q ∧ q < st.sp.length ∧ ix (hD st.op st.sp.length i k (st.op[i]).1 (st.op[i]).2.2.1) q = 0 ∧
    hD st.op st.sp.length i (k + 1) (st.op[i]).1 (st.op[i]).2.2.1 = (hD st.op st.sp.length i k (st.op[i]).1 (st.op[i]).2.2.1).set q (st.op[i]).1 := by
  have hm := ix_mem hk
  have hr := hi.rngP (List.getElem_mem h) _ hm
  have hnd := (choice_iff.mp (hi.chs _ (List.getElem_mem h))).2.2
  obtain ⟨q, hq⟩ : ∃ q : Nat, ix (st.op[i]).2.2.1 k = q := ⟨(ix (st.op[i]).2.2.1 k).toNat, by omega⟩
  rw [hq] at hr hm
  have hql : q < st.sp.length := by omega
  have hnt : (q : Int) ∉ (st.op[i]).2.2.1.take k := fun hmm => by
    obtain ⟨j, hj, e⟩ := List.getElem_of_mem hmm
    rw [List.length_take] at hj
    rw [List.getElem_take] at e
    rw [ix_get hk, ← e] at hq
    have := (List.pairwise_iff_getElem.mp hnd j k (by omega) hk (by omega))
    exact this hq.symm
  refine ⟨q, hq, hql, ?_, ?_⟩
  · rw [hD_at _ _ _ _ _ _ _ hql, if_neg hnt]
    exact heldW_none (fun y hy hm2 => other_pl hi h hy hm2 hm)
  · refine List.ext_getElem (by rw [hD_len, List.length_set, hD_len]) fun r h1 h2 => ?_
    rw [hD_len] at h1
    rw [List.getElem_set]
    simp only [hD, List.getElem_map, List.getElem_range]
    rw [List.take_succ_eq_append_getElem hk, ← ix_get hk, hq]
    by_cases e : q = r
    · subst e; simp
    · rw [if_neg e]
      have : ¬ ((r : Int) = (q : Int)) := by omega
      simp [this]
end

theorem heldW_ge {st : St} (hi : Inv st) (q : Int) : 0 ≤ heldW st.op q := by
  unfold heldW
  cases hf : st.op.find? (fun h => decide (q ∈ h.2.2.1)) with
  | none => exact Int.le_refl _
  | some x => have := hi.rng x (List.mem_of_find?_eq_some hf); show 0 ≤ x.1; omega

set_option maxRecDepth 100000 in
set_option maxHeartbeats 6400000 in
theorem ones_any (p : Nat) (hp : p ≤ 255) (ra : Option Addr) (n c B : Nat) (rs : List OpR) (w : World) (h : Recs OpE w ra n rs) (ho : OpsIn w B rs) (hn : n ≤ 9223372036854775807) :
    Calls Tryd.prog 3 #[.int .u8 p, .slice ra n c] w fun e w' => e = .returned (.bool true) ∧ Below w.heap.size w w' := by
  have HM := Lib.hid h
  have HO := Lib.hid ho
  clear h ho
  go_enter Tryd.func3, Tryd.ntmps3
  go_wp2_with fail
  refine (head_any w).mono ?_
  rintro e w1 ⟨rfl, hb1⟩
  have HB1 := Lib.hid hb1
  clear hb1
  go_wp2_with fail
  refine (few_any ra n c B rs w1 (HM.out.below HB1.out) (HO.out.below HB1.out) hn).mono ?_
  rintro e w' ⟨rfl, rfl⟩
  cases hf : fewB (rs.map (·.1))
  · go_wp2_with fail
    go_ret
    exact ⟨rfl, HB1.out⟩
  have HF := Lib.hid hf
  clear hf
  go_wp2_with fail
  refine (played_any p hp ra n c B rs w1 (HM.out.below HB1.out) (HO.out.below HB1.out) HF.out).mono ?_
  rintro e w2 ⟨g, M, sb, rfl, hb2, hh2, ho2⟩
  have HD2 : Hid (Hd w1 w2 g M sb (playN p (rs.map (·.1)))) := ⟨hb2, hh2, ho2⟩
  have hlast : (playN p (rs.map (·.1))).last ≤ 40 := by
    have h1 := playN_last p (rs.map (·.1))
    have h2 := (fewB_iff.mp HF.out).2
    omega
  have hspl : (playN p (rs.map (·.1))).sp.length ≤ 20 := by rw [playN_len]; omega
  have HI := Lib.hid (playN_inv p (rs.map (·.1)))
  have hol := inv_len HI.out
  obtain ⟨st, hst⟩ : ∃ st, st = playN p (rs.map (·.1)) := ⟨_, rfl⟩
  rw [← hst] at HD2 hlast hspl HI hol
  clear hb2 hh2 ho2 hst
  go_wp2_with fail
  refine (hs_spaces HD2.out.hs (by omega)).mono ?_
  rintro e w3 ⟨vs, rfl, hb3, _, hr3⟩
  have HD3 := Lib.hid (HD2.out.next hb3)
  have RS3 := Lib.hid hr3
  clear hb3 hr3 HD2
  go_wp2_with fail
  refine (hs_list HD3.out.hs (by omega)).mono ?_
  rintro e w4 ⟨vl, rfl, hb4, _, hr4⟩
  have HB4 : Hid (Below w.heap.size w w4) := HB1.out.trans ((HD3.out.next hb4).below.mono HB1.out.size)
  have RS4 := RS3.out.below hb4
  obtain ⟨E, la, lc, rfl, hE, hr, hpl, hcap⟩ := hr4.recs (inv_pl HI.out)
  obtain ⟨ls, lsc, rfl, hrs⟩ := RS4.recs
  have hEl : E.length = st.op.length := by rw [← hE, List.length_map]
  have HRE := Lib.hid hr
  have HPL := Lib.hid hpl
  have HRS := Lib.hid hrs
  have HE := Lib.hid hE
  obtain ⟨m, hm⟩ : ∃ m, E.length = m := ⟨_, rfl⟩
  obtain ⟨q, hq⟩ : ∃ q, st.sp.length = q := ⟨_, rfl⟩
  rw [hm] at HRE hEl ⊢
  rw [hq] at HRS hspl ⊢
  have HMM := Lib.hid hm
  have HQQ := Lib.hid hq
  have HEL := Lib.hid hEl
  have hm40 : m ≤ 40 := by omega
  obtain ⟨arr, has, haz, hmk⟩ := make_ints q (by omega)
  clear hb4 hr4 hr hpl hrs hE hm hq hEl RS4 RS3 HD3 hol hlast hcap
  go_upto_region 8 with fail
  have HIR : Hid (IntRow (w4.alloc (.cells arr 3)) w4.heap.size 3 (hD st.op q 0 0 0 [])) := by
    have := row_made (w := w4) (T := 3) has haz
    rw [hD_zero]
    exact this
  have HB45 : Hid (Below w4.heap.size w4 (w4.alloc (.cells arr 3))) := Joins.below_alloc1 _ _
  generalize w4.alloc (.cells arr 3) = w5 at *
  obtain ⟨hb, hhb⟩ : ∃ hb, w4.heap.size = hb := ⟨_, rfl⟩
  rw [hhb] at HIR ⊢
  have HHB := Lib.hid hhb
  clear has haz hmk hhb
  go_wp2_with fail
  go_loopw [10, 11, 12] (fun v10 v11 v12 wr => ∃ i : Nat, v10 = .int .i64 i ∧ i ≤ m ∧ Hid (Below w4.heap.size w4 wr) ∧ Hid (IntRow wr hb 3 (hD st.op q i 0 0 []))) (fun v10 _ _ _ => m - (intOf v10).toNat)
  case atStart => exact ⟨0, rfl, Nat.zero_le _, HB45.out, HIR.out⟩
  case round =>
    obtain ⟨i, rfl, hi, HB, HR⟩ := hrel
    by_cases hlt : i < m
    · have hiE : i < E.length := by rw [HMM.out]; exact hlt
      have hio : i < st.op.length := by rw [← HEL.out]; exact hlt
      have hx : E[i].1 = st.op[i] := by
        have : (E.map (·.1))[i]? = some st.op[i] := by rw [HE.out]; exact List.getElem?_eq_getElem hio
        rw [List.getElem?_map, List.getElem?_eq_getElem hiE] at this
        simpa using this
      obtain ⟨b, o, rfl, hjunk⟩ := own_at (HRE.out.below HB.out) i hlt hiE
      clear hjunk
      have HCE : Hid (∀ wx, Below w4.heap.size w4 wx → wx.cell? ⟨b, o + i * 6, none⟩ = some (.int .i64 (st.op[i]).1) ∧ wx.cell? ⟨b, o + i * 6 + 3, none⟩ = some (.slice E[i].2.1 (st.op[i]).2.2.1.length E[i].2.2)) := fun wx hb => by
        obtain ⟨b', o', e, c0, _, _, c3, _⟩ := own_at (HRE.out.below hb) i hlt hiE
        cases e
        rw [hx] at c0 c3
        exact ⟨c0, c3⟩
      have HPI : Hid (∀ wx, Below w4.heap.size w4 wx → Ints wx E[i].2.1 (st.op[i]).2.2.1.length (st.op[i]).2.2.1) := fun wx hb => by
        have := ((HPL.out _ (List.getElem_mem hiE)).below hb).2
        rw [hx] at this
        exact this
      have HPA : Hid (∀ k, k < (st.op[i]).2.2.1.length → ∃ q' : Nat, ix (st.op[i]).2.2.1 k = q' ∧ q' < q ∧ ix (hD st.op q i k (st.op[i]).1 (st.op[i]).2.2.1) q' = 0 ∧
          hD st.op q i (k + 1) (st.op[i]).1 (st.op[i]).2.2.1 = (hD st.op q i k (st.op[i]).1 (st.op[i]).2.2.1).set q' (st.op[i]).1) := fun k hk => by
        have := pl_at HI.out hio hk
        rw [HQQ.out] at this
        exact this
      have HEN : Hid (hD st.op q i (st.op[i]).2.2.1.length (st.op[i]).1 (st.op[i]).2.2.1 = hD st.op q (i + 1) 0 0 []) := by
        have := hD_end HI.out hio
        rw [HQQ.out] at this
        show _ = _
        rw [this]
        exact hD_start _ _ _ _ _ _ _
      have HST : Hid (hD st.op q i 0 0 [] = hD st.op q i 0 (st.op[i]).1 (st.op[i]).2.2.1) := hD_start _ _ _ _ _ _ _
      have hch := (choice_iff.mp (HI.out.chs _ (List.getElem_mem hio))).1
      have HPR : Hid (∀ j, i = j + 1 → ∃ id', id' < (st.op[i]).1 ∧ ∀ wx, Below w4.heap.size w4 wx → wx.cell? ⟨b, o + j * 6, none⟩ = some (.int .i64 id')) := fun j hj => by
        have hjo : j < st.op.length := by omega
        have hjE : j < E.length := by omega
        have hxj : E[j].1 = st.op[j] := by
          have : (E.map (·.1))[j]? = some st.op[j] := by rw [HE.out]; exact List.getElem?_eq_getElem hjo
          rw [List.getElem?_map, List.getElem?_eq_getElem hjE] at this
          simpa using this
        refine ⟨(st.op[j]).1, List.pairwise_iff_getElem.mp HI.out.ids j i hjo hio (by omega), fun wx hb => ?_⟩
        obtain ⟨b', o', e, c0, _⟩ := own_at (HRE.out.below hb) j (by omega) hjE
        cases e
        rw [hxj] at c0
        exact c0
      rw [HST.out] at HR
      clear hx
      generalize E[i].2.1 = xa at *
      generalize E[i].2.2 = xc at *
      clear hiE HST
      generalize st.op[i] = x at *
      clear hio
      obtain ⟨id, nm', L, til, cls⟩ := x
      dsimp only at HCE HPI HPA HEN hch HPR HR
      obtain ⟨hch1, hch2⟩ := hch
      obtain ⟨c0, c3⟩ := HCE.out wr HB.out
      have hz : ((L.length : Int) == 0) = false := beq_eq_false_iff_ne.mpr (by omega)
      go_upto_region 11 with fail
      go_cut [60] (fun v60 wx => v60 = .bool false ∧ Hid (Quiet wr wx))
      case first =>
        cases i with
        | zero =>
          clear HPR
          go_quiet (fail)
          go_wp2_with fail
          go_meet
          case rel => exact ⟨rfl, nq, rfl⟩
        | succ j =>
          obtain ⟨id', hid, hc'⟩ := HPR.out j rfl
          have d0 := hc' wr HB.out
          have hge : decide (id ≤ id') = false := by simp; omega
          clear HPR hc' HEN HPA HPI HCE HR
          go_quiet (fail)
          go_wp2_with fail
          go_meet
          case rel => exact ⟨rfl, nq, rfl⟩
      case rest =>
        obtain ⟨rfl, hq⟩ := hcut
        clear HPR
        have HBc : Hid (Below w4.heap.size w4 wc) := HB.out.trans (hq.out.below.mono HB.out.size)
        have HRc : Hid (IntRow wc hb 3 (hD st.op q i 0 id L)) := HR.out.below hq.out.below
        clear HB HR hq
        go_wp2_with fail
        go_loopw [11, 12] (fun v11 v12 wr => ∃ k : Nat, v11 = .int .i64 k ∧ k ≤ L.length ∧ Hid (Below w4.heap.size w4 wr) ∧ Hid (IntRow wr hb 3 (hD st.op q i k id L))) (fun v11 _ _ => L.length - (intOf v11).toNat)
        case atStart => exact ⟨0, rfl, Nat.zero_le _, HBc.out, HRc.out⟩
        case round =>
          obtain ⟨k, rfl, hk, HB, HR⟩ := hrel
          obtain ⟨c0, c3⟩ := HCE.out wr HB.out
          by_cases hkl : k < L.length
          · obtain ⟨q', h1, h2, h3, h4⟩ := HPA.out k hkl
            obtain ⟨b3, o3, e3, d0⟩ := (HPI.out wr HB.out).2 k hkl
            subst e3
            rw [h1] at d0
            have r0 := HR.out.cell q' (by rw [hD_len]; exact h2)
            rw [h3] at r0
            have f0 := HR.out.free q'
            have HS := HR.out.set q' (by rw [hD_len]; exact h2) id
            rw [← h4] at HS
            have HS2 := Lib.hid HS
            have HG : Hid (wr.grownBy (wr.setCell ⟨hb, q', none⟩ (.int .i64 id)) (some hb)) := grown_setCell _ _ _ _
            have HB2 : Hid (Below w4.heap.size w4 (wr.setCell ⟨hb, q', none⟩ (.int .i64 id))) := HB.out.grown HG.out HB.out.size (fun j hj => by cases hj; rw [HHB.out]; exact Nat.le_refl _)
            clear h1 h3 h4 HS HR
            go_wp2_with fail
            exact ⟨⟨k + 1, by go_num, hkl, HB2.out, HS2.out⟩, by simp [intOf]; omega⟩
          · have hk' : k = L.length := by omega
            rw [hk', HEN.out] at HR
            subst hk'
            go_wp2_with fail
            go_roundw
            case rel => exact ⟨i + 1, by go_num, hlt, HB.out, HR.out⟩
            case measure => simp [intOf]; omega
    · have hi' : i = m := by omega
      subst hi'
      have HW : Hid (∀ j, j < q → ix (hD st.op q i 0 0 []) j = heldW st.op j) := fun j hj => by
        rw [hD_at _ _ _ _ _ _ _ hj, List.take_zero, if_neg (by simp), List.take_of_length_le (by rw [HEL.out]; exact Nat.le_refl _)]
      have HHI : Hid (∀ j, j < q → ((spAt st.sp j).1 = 1 ↔ 0 < heldW st.op j) ∧ (0 < heldW st.op j → (spAt st.sp j).2 = heldW st.op j)) := fun j hj => held_is HI.out (by rw [HQQ.out]; exact hj)
      have HST : Hid (∀ j, j < q → (spAt st.sp j).1 = 0 ∧ (spAt st.sp j).2 = 0 ∨ (spAt st.sp j).1 = 1 ∨ (spAt st.sp j).1 = 2) := fun j hj => HI.out.stt j (by rw [HQQ.out]; exact hj)
      clear HIR HB45
      obtain ⟨wo, rfl⟩ : ∃ wo : World, wo = wr := ⟨_, rfl⟩
      go_wp2_with fail
      go_loopw [13] (fun v13 wr => ∃ j : Nat, v13 = .int .i64 j ∧ j ≤ q ∧ Hid (Quiet wo wr)) (fun v13 _ => q - (intOf v13).toNat)
      case atStart => exact ⟨0, rfl, Nat.zero_le _, Quiet.refl _⟩
      case round =>
        obtain ⟨j, rfl, hj, HQ⟩ := hrel
        by_cases hjq : j < q
        · obtain ⟨b2, o2, rfl, x0, x1⟩ := sp_at2 (HRS.out.below (HB.out.trans (HQ.out.below.mono HB.out.size))) j hjq
          have r0 := (HR.out.below HQ.out.below).cell j (by rw [hD_len]; exact hjq)
          rw [HW.out j hjq] at r0
          obtain ⟨h1, h2⟩ := HHI.out j hjq
          have h3 := HST.out j hjq
          generalize heldW st.op (j : Int) = v at *
          generalize spAt st.sp j = x at *
          obtain ⟨x, y⟩ := x
          dsimp only at x0 x1 h1 h2 h3
          by_cases hv : 0 < v
          · obtain rfl : x = 1 := h1.mpr hv
            obtain rfl : y = v := h2 hv
            have hd : decide (0 < y) = true := by simp [hv]
            clear h1 h2 h3
            go_upto_region 23 with fail
            go_quiet (fail)
            go_wp2_with fail
            go_roundw
            case rel => exact ⟨j + 1, by go_num, by omega, HQ.out.more nq⟩
            case measure => simp [intOf]; omega
          · have hd : decide (0 < v) = false := by simp; omega
            have hx1 : ¬ x = 1 := fun e => hv (h1.mp e)
            have hb1 : (x == 1) = false := beq_eq_false_iff_ne.mpr hx1
            rcases h3 with ⟨rfl, rfl⟩ | h3 | rfl
            · clear h1 h2 hx1
              go_upto_region 23 with fail
              go_quiet (fail)
              go_wp2_with fail
              go_roundw
              case rel => exact ⟨j + 1, by go_num, by omega, HQ.out.more nq⟩
              case measure => simp [intOf]; omega
            · exact absurd h3 hx1
            · clear h1 h2 hx1
              go_upto_region 23 with fail
              go_quiet (fail)
              go_wp2_with fail
              go_roundw
              case rel => exact ⟨j + 1, by go_num, by omega, HQ.out.more nq⟩
              case measure => simp [intOf]; omega
        · have hj' : j = q := by omega
          subst hj'
          go_wp2_with fail
          go_ret
          exact ⟨rfl, HB4.out.trans ((HB.out.trans (HQ.out.below.mono HB.out.size)).mono HB4.out.size)⟩
end Go.Proofs.YtkdbenoleendcaaDoor
