/- foyerref26: Release, Sell, Free, Spaces, List. -/
import Derived.Test.YtkdbenoleendcaaGreatDoorQHMB34
import Derived.Test.YtkdbenoleendcaaGreatDoorQHMB44

namespace Go.Proofs.YtkdbenoleendcaaGreatDoor
open Go.RowKit Go.IntWalk Go.Maps Go.WideMaps

theorem endS_at {st : St} (hi : Inv st) {i : Nat} (h : i < st.op.length) {id : Int} (e : (st.op[i]).1 = id) (s : SpT) :
    endS st id s = (((st.op[i]).2.2.1, 0), ⟨markS st.sp (st.op[i]).2.2.1 s, st.last, st.op.take i ++ st.op.drop (i + 1)⟩) := by
  have h1 := drop_split hi h
  rw [e] at h1
  unfold endS
  rw [find_at hi h e]
  dsimp only
  rw [h1]

theorem endS_no {st : St} {id : Int} (h : findH st.op id = none) (s : SpT) : endS st id s = (([], 11), st) := by
  unfold endS
  rw [h]

/-- What ends a hold of the reference: its places, an error, the Holds that is left. -/
def RSellPost (g B : Nat) (r : (List Int × Int) × St) (w : World) (e : Ending) (w' : World) : Prop :=
  ∃ v, e = .returned (.tuple #[v, .int .i64 r.1.2]) ∧ LRes w' v r.1.1 ∧ RS w' g B r.2 ∧ Upd (Gb g) w w'

set_option maxRecDepth 10000 in
theorem rrelease_any (w : World) (g B : Nat) (st : St) (id : Int) (h : RS w g B st) (hsp : st.sp.length ≤ 4000) (hla : st.last ≤ 1000) :
    Calls Tryz.prog 11 #[.pointer (some ⟨g, 0, none⟩), .int .i64 id] w (RErrPost g B ((endS st id (0, 0)).1.2, (endS st id (0, 0)).2) w) := by
  have hRS := Lib.hid h
  obtain ⟨hBw, hinv, oa, oc, sa, sc, E, hc, hsaB⟩ := h
  have HBW := Lib.hid hBw
  have HH := Lib.hid hc
  have HI := Lib.hid hinv
  have hol := inv_len hinv
  clear hc hinv hBw hsaB
  go_enter Tryz.func11, Tryz.ntmps11
  go_wp2_with fail
  refine (find_any w g oa sa oc sc E st id HH.out (by omega)).mono ?_
  rintro e w1 ⟨rfl, hf⟩
  rcases hf with ⟨hf, rfl⟩ | ⟨i, hi, hid, rfl⟩
  · have HS := Lib.hid (endS_no hf (0, 0))
    clear hf
    go_wp2_with fail
    go_ret
    exact ⟨by rw [HS.out]; rfl, by rw [HS.out]; exact hRS.out, Upd.refl _ _⟩
  have HS := Lib.hid (endS_at HI.out hi hid (0, 0))
  have HEN := Lib.hid (rend_any w g oa sa oc sc E st i 0 0 HH.out HI.out hi hsp (by omega))
  have HIN := Lib.hid (end_inv HI.out id (0, 0) (Or.inl rfl))
  have hil : i ≤ 1000 := by omega
  clear hid
  generalize (st.op[i]).2.2.1 = P at *
  clear hi
  go_wp2_with fail
  refine HEN.out.mono ?_
  rintro e w2 ⟨xa, xc, oa', oc', sa', sc', E', rfl, hlr, hh, hu, hfr, hjunk⟩
  clear hjunk
  have HLR := Lib.hid hlr
  have HH2 := Lib.hid hh
  have HU := Lib.hid hu
  have HFR := Lib.hid hfr
  rw [HS.out] at HIN
  clear hlr hh hu hfr HEN
  go_wp2_with fail
  go_ret
  rw [HS.out]
  exact ⟨rfl, ⟨Nat.le_trans HBW.out HU.out.size, HIN.out, _, _, _, _, _, HH2.out, fun b o e => Nat.le_trans HBW.out (HFR.out b o e)⟩, HU.out⟩

set_option maxRecDepth 10000 in
theorem rsell_any (w : World) (g B : Nat) (st : St) (id : Int) (h : RS w g B st) (hsp : st.sp.length ≤ 4000) (hla : st.last ≤ 1000) :
    Calls Tryz.prog 13 #[.pointer (some ⟨g, 0, none⟩), .int .i64 id] w (RSellPost g B (endS st id (2, id)) w) := by
  have hRS := Lib.hid h
  obtain ⟨hBw, hinv, oa, oc, sa, sc, E, hc, hsaB⟩ := h
  have HBW := Lib.hid hBw
  have HH := Lib.hid hc
  have HI := Lib.hid hinv
  have hol := inv_len hinv
  clear hc hinv hBw hsaB
  go_enter Tryz.func13, Tryz.ntmps13
  go_wp2_with fail
  refine (find_any w g oa sa oc sc E st id HH.out (by omega)).mono ?_
  rintro e w1 ⟨rfl, hf⟩
  rcases hf with ⟨hf, rfl⟩ | ⟨i, hi, hid, rfl⟩
  · have HS := Lib.hid (endS_no hf (2, id))
    clear hf
    go_wp2_with fail
    go_ret2
    exact ⟨_, by rw [HS.out]; rfl, by rw [HS.out]; exact LRes.nil _, by rw [HS.out]; exact hRS.out, Upd.refl _ _⟩
  have HS := Lib.hid (endS_at HI.out hi hid (2, id))
  have HEN := Lib.hid (rend_any w g oa sa oc sc E st i 2 id HH.out HI.out hi hsp (by omega))
  have HIN := Lib.hid (end_inv HI.out id (2, id) (Or.inr rfl))
  have hil : i ≤ 1000 := by omega
  clear hid
  generalize (st.op[i]).2.2.1 = P at *
  clear hi
  go_wp2_with fail
  refine HEN.out.mono ?_
  rintro e w2 ⟨xa, xc, oa', oc', sa', sc', E', rfl, hlr, hh, hu, hfr, hjunk⟩
  clear hjunk
  have HLR := Lib.hid hlr
  have HH2 := Lib.hid hh
  have HU := Lib.hid hu
  have HFR := Lib.hid hfr
  rw [HS.out] at HIN
  clear hlr hh hu hfr HEN
  go_wp2_with fail
  go_ret2
  rw [HS.out]
  exact ⟨_, rfl, HLR.out, ⟨Nat.le_trans HBW.out HU.out.size, HIN.out, _, _, _, _, _, HH2.out, fun b o e => Nat.le_trans HBW.out (HFR.out b o e)⟩, HU.out⟩

set_option maxRecDepth 10000 in
theorem rfreep_any (w : World) (g B : Nat) (st : St) (p : Int) (h : RS w g B st) (hsp : st.sp.length ≤ 4000) :
    Calls Tryz.prog 14 #[.pointer (some ⟨g, 0, none⟩), .int .i64 p] w (RErrPost g B (freeS st p) w) := by
  have hRS := Lib.hid h
  have HIN := Lib.hid (free_inv h.inv p)
  obtain ⟨hBw, hinv, oa, oc, sa, sc, E, hc, hsaB⟩ := h
  have HBW := Lib.hid hBw
  have HH := Lib.hid hc
  have g1 := hc.c1
  clear hc hinv hBw hsaB
  by_cases h0 : p < 0
  · have HS : Hid (freeS st p = (1, st)) := by
      show _ = _
      unfold freeS
      rw [if_pos (by unfold inR; simp; omega)]
    go_enter Tryz.func14, Tryz.ntmps14
    go_wp2_with fail
    go_ret
    exact ⟨by rw [HS.out]; rfl, by rw [HS.out]; exact hRS.out, Upd.refl _ _⟩
  obtain ⟨q, rfl⟩ : ∃ q : Nat, p = q := ⟨p.toNat, by omega⟩
  by_cases h1 : st.sp.length ≤ q
  · have HS : Hid (freeS st (q : Int) = (1, st)) := by
      show _ = _
      unfold freeS
      rw [if_pos (by unfold inR; simp; omega)]
    go_enter Tryz.func14, Tryz.ntmps14
    go_wp2_with fail
    go_ret
    exact ⟨by rw [HS.out]; rfl, by rw [HS.out]; exact hRS.out, Upd.refl _ _⟩
  have hq : q < st.sp.length := by omega
  have HQ : Hid (q < st.sp.length) := hq
  obtain ⟨b2, o2, hsa, x0, x1⟩ := sp_at2 HH.out.sps.recs q hq
  subst hsa
  have HR0 : Hid (inR st.sp.length (q : Int) = true) := by show _ = _; unfold inR; simp; omega
  obtain ⟨ns, hns⟩ : ∃ ns, st.sp.length = ns := ⟨_, rfl⟩
  have HNS := Lib.hid hns
  rw [hns] at g1 hq h1 hsp
  clear x1 hns
  by_cases h2 : (spAt st.sp q).1 = 2
  · have HS : Hid (freeS st (q : Int) = (0, ⟨markS st.sp [(q : Int)] (0, 0), st.last, st.op⟩)) := by
      show _ = _
      unfold freeS
      rw [if_neg (by rw [HR0.out]; simp), if_neg (by rw [Int.toNat_natCast, h2]; simp)]
      rfl
    rw [h2] at x0
    have HB1 : Hid (Below w.heap.size w (w.alloc (.cells #[.int .i64 (q : Int)] 3))) := Joins.below_alloc1 w _
    have HRN : Hid (IntRow (w.alloc (.cells #[.int .i64 (q : Int)] 3)) w.heap.size 3 [(q : Int)]) := row_new w [(q : Int)]
    have HS1 := Lib.hid (set_any (w.alloc (.cells #[.int .i64 (q : Int)] 3)) g oa (some ⟨b2, o2, none⟩) oc sc E st [(q : Int)] (some ⟨w.heap.size, 0, none⟩) 1 1 0 0 (HH.out.below HB1.out) (by omega) (by rw [HNS.out]; exact hsp) (by omega) (fun p hp => by
      rw [List.mem_singleton.mp hp]
      have := HQ.out
      omega) (IntRow.ints HRN.out))
    clear h2
    go_enter Tryz.func14, Tryz.ntmps14
    go_wp2_with fail
    refine HS1.out.mono ?_
    rintro e w2 ⟨sa', sc', rfl, hh, hu, hfr⟩
    have HH2 := Lib.hid hh
    have HU : Hid (Upd (Gb g) w w2) := (Upd.of_below HB1.out).trans hu
    have HFR : Hid (∀ b o, sa' = some ⟨b, o, none⟩ → w.heap.size ≤ b) := fun b o e => Nat.le_trans HB1.out.size (hfr b o e)
    rw [HS.out] at HIN
    clear hh hu hfr HS1 x0 g1
    go_wp2_with fail
    go_ret
    rw [HS.out]
    exact ⟨rfl, ⟨Nat.le_trans HBW.out HU.out.size, HIN.out, _, _, _, _, _, HH2.out, fun b o e => Nat.le_trans HBW.out (HFR.out b o e)⟩, HU.out⟩
  · have HS : Hid (freeS st (q : Int) = (12, st)) := by
      show _ = _
      unfold freeS
      rw [if_neg (by rw [HR0.out]; simp), if_pos (by rw [Int.toNat_natCast]; exact h2)]
    generalize (spAt st.sp q).1 = y at *
    have hy : (y != 2) = true := by simp [h2]
    clear h2
    go_enter Tryz.func14, Tryz.ntmps14
    go_wp2_with fail
    go_ret
    exact ⟨by rw [HS.out]; rfl, by rw [HS.out]; exact hRS.out, Upd.refl _ _⟩

/-- What Spaces hands back. -/
theorem rspaces_any (w : World) (g B : Nat) (st : St) (h : RS w g B st) :
    Calls Tryz.prog 18 #[.pointer (some ⟨g, 0, none⟩)] w fun e w' => ∃ v, e = .returned v ∧ w = w' ∧ SRow w 0 v st.sp := by
  obtain ⟨hBw, hinv, oa, oc, sa, sc, E, hc, hsaB⟩ := h
  have g1 := hc.c1
  have HS : Hid (SRow w 0 (.slice sa st.sp.length sc) st.sp) := ⟨sa, sc, rfl, fun hn => let ⟨b, e, r⟩ := hc.sps hn; ⟨b, e, Nat.zero_le _, r⟩⟩
  clear hc hinv hBw hsaB
  go_enter Tryz.func18, Tryz.ntmps18
  go_wp2_with fail
  go_ret
  exact ⟨_, rfl, rfl, HS.out⟩

/-- What List hands back. -/
theorem rlist_any (w : World) (g B : Nat) (st : St) (h : RS w g B st) :
    Calls Tryz.prog 21 #[.pointer (some ⟨g, 0, none⟩)] w fun e w' => ∃ v, e = .returned v ∧ w = w' ∧ HRow w v st.op := by
  obtain ⟨hBw, hinv, oa, oc, sa, sc, E, hc, hsaB⟩ := h
  have g0 := hc.c0
  have HS : Hid (HRow w (.slice oa st.op.length oc) st.op) := hc.opn.row hc.ops hc.elen hc.cap
  clear hc hinv hBw hsaB
  go_enter Tryz.func21, Tryz.ntmps21
  go_wp2_with fail
  go_ret
  exact ⟨_, rfl, rfl, HS.out⟩
end Go.Proofs.YtkdbenoleendcaaGreatDoor
