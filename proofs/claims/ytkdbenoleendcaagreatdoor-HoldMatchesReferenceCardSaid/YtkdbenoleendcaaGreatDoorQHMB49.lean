/- hold and foyerref26: HoldMatchesReference, the walk. -/
import Derived.Test.YtkdbenoleendcaaGreatDoorQHMB48

namespace Go.Proofs.YtkdbenoleendcaaGreatDoor
open Go.RowKit Go.IntWalk Go.Maps Go.WideMaps

def startO (p : Int) : Option St := if 0 ≤ p ∧ p ≤ 4000 then some (newS p.toNat) else none

theorem startO_size {p : Int} (h : p ≤ 200) : SzO 200 0 (startO p) := by
  intro st e
  unfold startO at e
  split at e
  · cases e
    exact ⟨by rw [new_len]; omega, Nat.le_refl _, new_inv _⟩
  · cases e

theorem hnew_o (w : World) (p : Int) : Calls Tryz.prog 6 #[.int .i64 p] w fun e w' => ∃ hv g M sb, e = .returned hv ∧ HO w' hv g M sb (startO p) ∧ Below w.heap.size w w' ∧ (∀ i, Own3 g M sb i → w.heap.size ≤ i) ∧ (startO p ≠ none → sb < w'.heap.size) := by
  refine (new_any w TT p).mono ?_
  rintro e w' ⟨hb, h⟩
  unfold startO
  split at h
  · obtain ⟨g, M, sb, rfl, hh, ho⟩ := h
    rename_i hp
    rw [if_pos hp]
    have hl : sb < w'.heap.size := HS.lt ⟨_, hh⟩ (Or.inr (Or.inr rfl))
    exact ⟨_, g, M, sb, rfl, ⟨rfl, _, hh⟩, hb, ho, fun _ => hl⟩
  · rename_i hp
    rw [if_neg hp]
    subst h
    exact ⟨_, w.heap.size, w.heap.size, w.heap.size, rfl, rfl, hb, fun i hi => by rcases hi with rfl | rfl | rfl <;> exact Nat.le_refl _, fun h => absurd rfl h⟩

theorem rnew_o (w : World) (p : Int) (sb : Nat) (h1 : startO p ≠ none → sb < w.heap.size) :
    Calls Tryz.prog 7 #[.int .i64 p] w fun e w' => ∃ rv gr B, e = .returned rv ∧ RO w' rv gr B (startO p) ∧ Below w.heap.size w w' ∧ sb < B ∧ w.heap.size ≤ gr := by
  refine (rnew_any w p).mono ?_
  rintro e w' ⟨hb, h⟩
  unfold startO at h1 ⊢
  split at h
  · obtain ⟨g, rfl, hh, hg⟩ := h
    rename_i hp
    rw [if_pos hp] at h1 ⊢
    exact ⟨_, g, w.heap.size, rfl, ⟨rfl, hh⟩, hb, h1 (by simp), hg⟩
  · rename_i hp
    rw [if_neg hp]
    subst h
    exact ⟨_, w.heap.size, sb + 1, rfl, rfl, hb, Nat.lt_succ_self _, Nat.le_refl _⟩

theorem ho_nil {w : World} {hv : Value} {g M sb : Nat} {so : Option St} (h : HO w hv g M sb so) (wx : World) : Sem.run Tryz.prog (binOp .eql 25 hv (.pointer none)) wx = .ok (.bool so.isNone) wx := by
  cases so with
  | none => obtain rfl : hv = .pointer none := h; kernel_rfl
  | some st => obtain ⟨rfl, _⟩ := h; kernel_rfl
theorem ro_nil {w : World} {rv : Value} {g B : Nat} {so : Option St} (h : RO w rv g B so) (wx : World) : Sem.run Tryz.prog (binOp .eql 27 rv (.pointer none)) wx = .ok (.bool so.isNone) wx := by
  cases so with
  | none => obtain rfl : rv = .pointer none := h; kernel_rfl
  | some st => obtain ⟨rfl, _⟩ := h; kernel_rfl

theorem ho_guard {w : World} {hv : Value} {g M sb : Nat} {so : Option St} (h : HO w hv g M sb so) (i : Nat) (wx : World) : Sem.run Tryz.prog (eqGuard .eql 25 (.tmp i) (.const (.pointer none)) hv (.pointer none)) wx = .ok () wx := by
  cases so with
  | none => obtain rfl : hv = .pointer none := h; kernel_rfl
  | some st => obtain ⟨rfl, _⟩ := h; kernel_rfl
theorem ro_guard {w : World} {rv : Value} {g B : Nat} {so : Option St} (h : RO w rv g B so) (i : Nat) (wx : World) : Sem.run Tryz.prog (eqGuard .eql 27 (.tmp i) (.const (.pointer none)) rv (.pointer none)) wx = .ok () wx := by
  cases so with
  | none => obtain rfl : rv = .pointer none := h; kernel_rfl
  | some st => obtain ⟨rfl, _⟩ := h; kernel_rfl

/-- Behind an operation of the reference: what both gave. -/
def Mid (w w' : World) (hv rv : Value) (g M sb gr B : Nat) (so : Option St) (v u : Value) (L : List Int) : Prop :=
  HO w' hv g M sb so ∧ RO w' rv gr B so ∧ LRes w' v L ∧ LRes w' u L ∧ Below w.heap.size w w'

theorem lres_ints {w : World} {v u : Value} {L : List Int} (h : LRes w v L) (k : LRes w u L) (hL : L.length ≤ 1000000) : Calls Tryz.prog 15 #[v, u] w fun e w' => e = .returned (.bool true) ∧ Below w.heap.size w w' := by
  obtain ⟨pa, pc, rfl, hi⟩ := h.ints
  obtain ⟨qa, qc, rfl, ki⟩ := k.ints
  refine (ints_any pa qa _ pc _ qc L L w hi ki hL hL).mono ?_
  rintro e w' ⟨rfl, hq⟩
  exact ⟨by simp, hq.below⟩

theorem ex_len {st : St} (now : Int) : (expireS st now).1.length ≤ st.op.length := by
  show (overS st.op now).length ≤ _
  unfold overS
  rw [List.length_map]
  exact List.length_filter_le _ _

theorem end_llen {st : St} (hi : Inv st) (id : Int) (s : SpT) : (endS st id s).1.1.length ≤ 4000 := by
  unfold endS
  split
  · exact Nat.zero_le _
  · rename_i x hx
    exact inv_pl hi x (List.mem_of_find?_eq_some hx)

theorem do_llen {n k : Nat} {so : Option St} (h : SzO n k so) (hk : k ≤ 1000) (x : OpT) : (doO so x).1.2.1.length ≤ 1000000 := by
  cases so with
  | none => exact Nat.zero_le _
  | some st =>
    obtain ⟨_, h2, h3⟩ := h st rfl
    show (doS nameS st x).1.2.1.length ≤ _
    unfold doS
    split
    · exact Nat.zero_le _
    · split
      · exact Nat.zero_le _
      · split
        · exact Nat.zero_le _
        · split
          · have := ex_len (st := st) x.2.2.2.1
            have := inv_len h3
            dsimp only
            omega
          · split
            · have := end_llen h3 x.2.2.2.1 (2, x.2.2.2.1)
              dsimp only
              omega
            · exact Nat.zero_le _

theorem sp_len {k : Nat} {so : Option St} (h : SzO 200 k so) : (spO so).length ≤ 4000 := by
  cases so with
  | none => exact Nat.zero_le _
  | some st => have := (h st rfl).1; show st.sp.length ≤ 4000; omega
theorem op_len {so : Option St} (h : SzO 200 1000 so) : (opO so).length ≤ 4000 := by
  cases so with
  | none => exact Nat.zero_le _
  | some st =>
    have h1 := h st rfl
    have := inv_len h1.2.2
    show st.op.length ≤ 4000
    omega
theorem pl_len {k : Nat} {so : Option St} (h : SzO 200 k so) : ∀ x ∈ opO so, x.2.2.1.length ≤ 4000 := by
  cases so with
  | none => exact fun x hx => by cases hx
  | some st => exact inv_pl (h st rfl).2.2

theorem do_zero0 (_so : Option St) (_t : NmT) (_L : List Int) (_id _cl : Int) : True := trivial
theorem do_zero1 (so : Option St) (t : NmT) (L : List Int) (id cl : Int) : (doO so (1, t, L, id, cl)).1.1 = 0 := by cases so <;> rfl
theorem do_zero2 (so : Option St) (t : NmT) (L : List Int) (id cl : Int) : (doO so (2, t, L, id, cl)).1.1 = 0 := by cases so <;> rfl
theorem do_zero3 (so : Option St) (t : NmT) (L : List Int) (id cl : Int) : (doO so (3, t, L, id, cl)).1.1 = 0 ∧ (doO so (3, t, L, id, cl)).1.2.2 = 0 := by cases so <;> exact ⟨rfl, rfl⟩
theorem do_zero4 (so : Option St) (t : NmT) (L : List Int) (id cl : Int) : (doO so (4, t, L, id, cl)).1.1 = 0 := by cases so <;> rfl
theorem do_zero5 (so : Option St) (k : Int) (t : NmT) (L : List Int) (id cl : Int) (h0 : k ≠ 0) (h1 : k ≠ 1) (h2 : k ≠ 2) (h3 : k ≠ 3) (h4 : k ≠ 4) : (doO so (k, t, L, id, cl)).1.1 = 0 := by
  cases so with
  | none => rfl
  | some st =>
    show (doS nameS st (k, t, L, id, cl)).1.1 = 0
    rw [do_free st k t L id cl h0 h1 h2 h3 h4]

set_option maxRecDepth 100000 in
set_option maxHeartbeats 6400000 in
theorem matches_any (p : Int) (ra : Option Addr) (n c B : Nat) (rs : List OpR) (w : World) (h : Recs OpE w ra n rs) (ho : OpsIn w B rs) (hn : n ≤ 9223372036854775807) :
    Calls Tryz.prog 3 #[.int .i64 p, .slice ra n c] w fun e w' => e = .returned (.bool true) ∧ Below w.heap.size w w' := by
  have HM := Lib.hid h
  have HO0 := Lib.hid ho
  have hlen := h.1
  clear h ho
  go_enter Tryz.func3, Tryz.ntmps3
  go_wp2_with fail
  refine (head_any w).mono ?_
  rintro e w1 ⟨rfl, hb1⟩
  have HB1 := Lib.hid hb1
  clear hb1
  go_wp2_with fail
  refine (few_any ra n c B rs w1 (HM.out.below HB1.out) (HO0.out.below HB1.out) hn).mono ?_
  rintro e w' ⟨rfl, rfl⟩
  cases hf : fewB (rs.map (·.1))
  · go_wp2_with fail
    go_ret
    exact ⟨rfl, HB1.out⟩
  have HF := Lib.hid (fewB_iff.mp hf)
  have hn40 : n ≤ 40 := by have := HF.out.2; simp at this; omega
  clear hf hn
  go_wp2_with fail
  refine (hnew_o w1 p).mono ?_
  rintro e w2 ⟨hv, g, M, sb, rfl, hh, hb, hown, hs1⟩
  have HB2 : Hid (Below w.heap.size w w2) := HB1.out.trans (hb.mono HB1.out.size)
  have HOW : Hid (∀ i, Own3 g M sb i → w.heap.size ≤ i) := fun i hi => Nat.le_trans HB1.out.size (hown i hi)
  have HH2 := Lib.hid hh
  have HS1 := Lib.hid hs1
  clear hh hb hown hs1
  go_wp2_with fail
  refine (rnew_o w2 p sb HS1.out).mono ?_
  rintro e w3 ⟨rv, gr, Br, rfl, hr, hb, hsb, hgr⟩
  have HB3 : Hid (Below w.heap.size w w3) := HB2.out.trans (hb.mono HB2.out.size)
  have HH3 := Lib.hid (HH2.out.below hb)
  have HR3 := Lib.hid hr
  have HSB := Lib.hid hsb
  have HGR : Hid (w.heap.size ≤ gr) := Nat.le_trans HB2.out.size hgr
  have HZ := Lib.hid (@startO_size p)
  clear hr hb hsb hgr HH2 HB2 HS1
  obtain ⟨so0, hso0⟩ : ∃ so, startO p = so := ⟨_, rfl⟩
  rw [hso0] at HH3 HR3 HZ
  clear hso0
  have hen := ho_nil HH3.out
  have ren := ro_nil HR3.out
  have heg := ho_guard HH3.out
  have reg := ro_guard HR3.out
  obtain ⟨nl, hnl⟩ : ∃ nl, so0.isNone = nl := ⟨_, rfl⟩
  rw [hnl] at hen ren
  clear hnl
  by_cases hp : 200 < p
  · go_wp2_with fail
    go_ret
    exact ⟨rfl, HB3.out⟩
  have HZ0 := Lib.hid (HZ.out (by omega))
  clear HZ
  go_wp2_with fail
  go_loopw [8] (fun v8 wr => ∃ (i : Nat) (so : Option St), v8 = .int .i64 i ∧ i ≤ n ∧ Hid (HO wr hv g M sb so) ∧ Hid (RO wr rv gr Br so) ∧ Hid (SzO 200 i so) ∧ Hid (Below w.heap.size w wr)) (fun v8 _ => n - (intOf v8).toNat)
  case atStart => exact ⟨0, so0, rfl, Nat.zero_le _, HH3.out, HR3.out, HZ0.out, HB3.out⟩
  case round =>
    clear HH3 HR3 HZ0 HB3
    obtain ⟨i, so, rfl, hi, HH, HR, HZ, HB⟩ := hrel
    by_cases hlt : i < n
    · have hiE : i < rs.length := by omega
      obtain ⟨b, o, rfl, c0, c1, c2, c3, c4⟩ := op_at (HM.out.below HB.out) i hlt hiE
      obtain ⟨hwf, hin, _⟩ := HO0.out _ (List.getElem_mem hiE)
      have hfw := HF.out.1 _ (List.mem_map_of_mem (List.getElem_mem hiE))
      have HWF := Lib.hid hwf
      have HIN := Lib.hid hin
      have HFW := Lib.hid hfw
      clear hwf hin hfw
      generalize rs[i] = x at *
      obtain ⟨⟨k, t, L, id, cl⟩, pa, pc⟩ := x
      dsimp only at c0 c1 c2 c3 c4 HWF HIN HFW
      go_upto_region 12 with fail
      have HH1 := Lib.hid (HH.out.below (Joins.below_alloc1 wr (.cells #[.int .i64 k, .string (bs t), .slice pa L.length pc, .int .i64 id, .int .i64 cl] 31)))
      have HR1 := Lib.hid (HR.out.below (Joins.below_alloc1 wr (.cells #[.int .i64 k, .string (bs t), .slice pa L.length pc, .int .i64 id, .int .i64 cl] 31)))
      have HBx : Hid (Below w.heap.size w (wr.alloc (.cells #[.int .i64 k, .string (bs t), .slice pa L.length pc, .int .i64 id, .int .i64 cl] 31))) := HB.out.trans ((Joins.below_alloc1 wr _).mono HB.out.size)
      have HX : Hid ((wr.alloc (.cells #[.int .i64 k, .string (bs t), .slice pa L.length pc, .int .i64 id, .int .i64 cl] 31)).heap[wr.heap.size]? = some (.cells #[.int .i64 k, .string (bs t), .slice pa L.length pc, .int .i64 id, .int .i64 cl] 31 (0, 0))) := World.alloc_heap_new wr _
      generalize wr.alloc (.cells #[.int .i64 k, .string (bs t), .slice pa L.length pc, .int .i64 id, .int .i64 cl] 31) = wa at *
      have x0 : wa.cell? ⟨wr.heap.size, 0, none⟩ = some (.int .i64 k) := cell_of_row (j := 0) _ _ _ _ _ HX.out
      have x1 : wa.cell? ⟨wr.heap.size, 1, none⟩ = some (.string (bs t)) := cell_of_row (j := 1) _ _ _ _ _ HX.out
      have x2 : wa.cell? ⟨wr.heap.size, 2, none⟩ = some (.slice pa L.length pc) := cell_of_row (j := 2) _ _ _ _ _ HX.out
      have x3 : wa.cell? ⟨wr.heap.size, 3, none⟩ = some (.int .i64 id) := cell_of_row (j := 3) _ _ _ _ _ HX.out
      have x4 : wa.cell? ⟨wr.heap.size, 4, none⟩ = some (.int .i64 cl) := cell_of_row (j := 4) _ _ _ _ _ HX.out
      clear c0 c1 c2 c3 c4 HH HR
      go_wp2_with fail
      refine (do_o wa hv g M sb so k t L id cl pa L.length pc HH1.out (HZ.out.wide (by omega)) (by have := HFW.out.2; omega) (by have := HFW.out.1; omega) HWF.out.1
        (fun wx hu => HIN.out.below (Upd.below HBx.out hu (fun j hj => HOW.out j hj.2)))).mono ?_
      rintro e w4 ⟨v, rfl, hl, hh, hu⟩
      have HH4 := Lib.hid hh
      have HL4 := Lib.hid hl
      have HR4 := Lib.hid (HR1.out.other HH1.out hu HSB.out)
      have HB4 : Hid (Below w.heap.size w w4) := Upd.below HBx.out hu (fun j hj => HOW.out j hj.2)
      have HX4 : Hid (w4.heap[wr.heap.size]? = some (.cells #[.int .i64 k, .string (bs t), .slice pa L.length pc, .int .i64 id, .int .i64 cl] 31 (0, 0))) :=
        (hu.block _ (lt_of_block HX.out) (HH1.out.not_own HX.out (by decide) (by decide))).trans HX.out
      clear hh hl hu HH1 HR1 HBx HX x0 x1 x2 x3 x4
      have x0 : w4.cell? ⟨wr.heap.size, 0, none⟩ = some (.int .i64 k) := cell_of_row (j := 0) _ _ _ _ _ HX4.out
      have x1 : w4.cell? ⟨wr.heap.size, 1, none⟩ = some (.string (bs t)) := cell_of_row (j := 1) _ _ _ _ _ HX4.out
      have x2 : w4.cell? ⟨wr.heap.size, 2, none⟩ = some (.slice pa L.length pc) := cell_of_row (j := 2) _ _ _ _ _ HX4.out
      have x3 : w4.cell? ⟨wr.heap.size, 3, none⟩ = some (.int .i64 id) := cell_of_row (j := 3) _ _ _ _ _ HX4.out
      have x4 : w4.cell? ⟨wr.heap.size, 4, none⟩ = some (.int .i64 cl) := cell_of_row (j := 4) _ _ _ _ _ HX4.out
      clear HX4
      go_upto_block 2 with fail
      go_cut [13, 14, 15] (fun v13 v14 v15 wx => v13 = .int .i64 (doO so (k, t, L, id, cl)).1.1 ∧ v14 = .int .i64 (doO so (k, t, L, id, cl)).1.2.2 ∧ Hid (Mid w wx hv rv g M sb gr Br (doO so (k, t, L, id, cl)).2 v v15 (doO so (k, t, L, id, cl)).1.2.1))
      case first =>
        have HMID : Hid (∀ (wx : World) (u : Value), LRes wx u (doO so (k, t, L, id, cl)).1.2.1 → RO wx rv gr Br (doO so (k, t, L, id, cl)).2 → Upd (GsB so gr) w4 wx → Mid w wx hv rv g M sb gr Br (doO so (k, t, L, id, cl)).2 v u (doO so (k, t, L, id, cl)).1.2.1) := fun wx u hl hr hu =>
          ⟨HH4.out.other HR4.out hu, hr, HL4.out.keepR HR4.out hu, hl, Upd.below HB4.out hu (fun j hj => by rw [hj.2]; exact HGR.out)⟩
        have HZ4 := Lib.hid (HZ.out.wide (show i ≤ 1000 by omega))
        have HLw : Hid (∀ wx, Upd (GsB so gr) w4 wx → Ints wx pa L.length L) := fun wx hu => HIN.out.below (Upd.below HB4.out hu (fun j hj => by rw [hj.2]; exact HGR.out))
        have HL20 : Hid (L.length ≤ 4000 ∧ L.length ≤ pc ∧ t.length ≤ 1000) := ⟨by have := HFW.out.2; omega, HWF.out.2.2.2, by have := HFW.out.1; omega⟩
        clear HB4 HL4 HH4
        by_cases h0 : k = 0
        · subst h0
          have HZR := Lib.hid (do_zero0 so t L id cl)
          go_wp2_with fail
          refine (rtake_o HR4.out HZ4.out t L pa L.length pc id cl HL20.out.1 HL20.out.2.1 HL20.out.2.2 HLw.out).mono ?_
          rintro e w5 ⟨rfl, hl, hr, hu⟩
          have HMM := Lib.hid (HMID.out w5 _ hl hr hu)
          clear hl hr hu HMID
          go_wp2_with fail
          go_meet
          case rel => exact ⟨rfl, rfl, HMM⟩
        have hk0 : (k == 0) = false := by simp [h0]
        by_cases h1 : k = 1
        · subst h1
          have HZR := Lib.hid (do_zero1 so t L id cl)
          go_wp2_with fail
          refine (rswap_o HR4.out HZ4.out t L pa L.length pc id cl HL20.out.1 HL20.out.2.1 HLw.out).mono ?_
          rintro e w5 ⟨rfl, hl, hr, hu⟩
          have HMM := Lib.hid (HMID.out w5 _ hl hr hu)
          clear hl hr hu HMID
          go_wp2_with fail
          go_meet
          case rel => exact ⟨by rw [HZR.out], rfl, HMM⟩
        have hk1 : (k == 1) = false := by simp [h1]
        by_cases h2 : k = 2
        · subst h2
          have HZR := Lib.hid (do_zero2 so t L id cl)
          go_wp2_with fail
          refine (rrelease_o HR4.out HZ4.out t L id cl).mono ?_
          rintro e w5 ⟨rfl, hl, hr, hu⟩
          have HMM := Lib.hid (HMID.out w5 _ hl hr hu)
          clear hl hr hu HMID
          go_wp2_with fail
          go_meet
          case rel => exact ⟨by rw [HZR.out], rfl, HMM⟩
        have hk2 : (k == 2) = false := by simp [h2]
        by_cases h3 : k = 3
        · subst h3
          have HZR := Lib.hid (do_zero3 so t L id cl)
          go_wp2_with fail
          refine (rexpire_o HR4.out HZ4.out t L id cl).mono ?_
          rintro e w5 ⟨u, rfl, hl, hr, hu⟩
          have HMM := Lib.hid (HMID.out w5 _ hl hr hu)
          clear hl hr hu HMID
          go_wp2_with fail
          go_meet
          case rel => exact ⟨by rw [HZR.out.1], by rw [HZR.out.2], HMM⟩
        have hk3 : (k == 3) = false := by simp [h3]
        by_cases h4 : k = 4
        · subst h4
          have HZR := Lib.hid (do_zero4 so t L id cl)
          go_wp2_with fail
          refine (rsell_o HR4.out HZ4.out t L id cl).mono ?_
          rintro e w5 ⟨u, rfl, hl, hr, hu⟩
          have HMM := Lib.hid (HMID.out w5 _ hl hr hu)
          clear hl hr hu HMID
          go_wp2_with fail
          go_meet
          case rel => exact ⟨by rw [HZR.out], rfl, HMM⟩
        have hk4 : (k == 4) = false := by simp [h4]
        have HZR := Lib.hid (do_zero5 so k t L id cl h0 h1 h2 h3 h4)
        go_wp2_with fail
        refine (rfree_o HR4.out HZ4.out k t L id cl h0 h1 h2 h3 h4).mono ?_
        rintro e w5 ⟨rfl, hl, hr, hu⟩
        have HMM := Lib.hid (HMID.out w5 _ hl hr hu)
        clear hl hr hu HMID
        go_wp2_with fail
        go_meet
        case rel => exact ⟨by rw [HZR.out], rfl, HMM⟩
      case rest =>
        obtain ⟨rfl, rfl, HC⟩ := hcut
        obtain ⟨w5, rfl⟩ : ∃ y, y = wc := ⟨_, rfl⟩
        have HHc : Hid (HO w5 hv g M sb (doO so (k, t, L, id, cl)).2) := HC.out.1
        have HRc : Hid (RO w5 rv gr Br (doO so (k, t, L, id, cl)).2) := HC.out.2.1
        have HLc := Lib.hid HC.out.2.2.1
        have HUc := Lib.hid HC.out.2.2.2.1
        have HBc := Lib.hid HC.out.2.2.2.2
        have HZN := Lib.hid (HZ.out.step (k, t, L, id, cl))
        have HLL := Lib.hid (do_llen HZ.out (by omega) (k, t, L, id, cl))
        clear HC x0 x1 x2 x3 x4 HL4 HR4 HB4 HH4 HIN HFW HWF HZ
        generalize doO so (k, t, L, id, cl) = r at *
        obtain ⟨⟨ra1, ra2, ra3⟩, so2⟩ := r
        dsimp only at HHc HRc HLc HUc HZN HLL
        have HZW := Lib.hid (HZN.out.wide (show i + 1 ≤ 1000 by omega))
        go_wp2_with fail
        refine (lres_ints HLc.out HUc.out HLL.out).mono ?_
        rintro e w6 ⟨rfl, hb⟩
        have HH6 := Lib.hid (HHc.out.below hb)
        have HR6 := Lib.hid (HRc.out.below hb)
        have HB6 : Hid (Below w.heap.size w w6) := HBc.out.trans (hb.mono HBc.out.size)
        clear hb HHc HRc HBc HLc HUc HLL
        go_wp2_with fail
        refine (hspaces_o HH6.out HZW.out).mono ?_
        rintro e w7 ⟨va, rfl, hr, hb⟩
        have HH7 := Lib.hid (HH6.out.below hb)
        have HR7 := Lib.hid (HR6.out.below hb)
        have HS7 := Lib.hid hr
        have HB7 : Hid (Below w.heap.size w w7) := HB6.out.trans (hb.mono HB6.out.size)
        clear hb hr HH6 HR6 HB6
        go_wp2_with fail
        refine (rspaces_o HR7.out HZW.out).mono ?_
        rintro e w8 ⟨vb, rfl, hr, hb⟩
        have HH8 := Lib.hid (HH7.out.below hb)
        have HR8 := Lib.hid (HR7.out.below hb)
        have HS8 := Lib.hid (HS7.out.below hb)
        have HT8 := Lib.hid hr
        have HB8 : Hid (Below w.heap.size w w8) := HB7.out.trans (hb.mono HB7.out.size)
        have hspl : (spO so2).length ≤ 4000 := sp_len HZW.out
        have hopl : (opO so2).length ≤ 4000 := op_len HZW.out
        have HPL := Lib.hid (pl_len HZW.out)
        clear hb hr HH7 HR7 HB7 HS7
        go_wp2_with fail
        refine (hs_samesp HS8.out HT8.out hspl hspl).mono ?_
        rintro e w9 ⟨rfl, hb⟩
        have HH9 := Lib.hid (HH8.out.below hb)
        have HR9 := Lib.hid (HR8.out.below hb)
        have HB9 : Hid (Below w.heap.size w w9) := HB8.out.trans (hb.mono HB8.out.size)
        have hd1 : decide (spO so2 = spO so2) = true := by simp
        rw [hd1]
        clear hb HH8 HR8 HB8 HS8 HT8 hd1
        go_wp2_with fail
        refine (hlist_o HH9.out HZW.out).mono ?_
        rintro e w10 ⟨vc, rfl, hr, hb⟩
        have HH10 := Lib.hid (HH9.out.below hb)
        have HR10 := Lib.hid (HR9.out.below hb)
        have HS10 := Lib.hid hr
        have HB10 : Hid (Below w.heap.size w w10) := HB9.out.trans (hb.mono HB9.out.size)
        clear hb hr HH9 HR9 HB9
        go_wp2_with fail
        refine (rlist_o HR10.out HZW.out).mono ?_
        rintro e w11 ⟨vd, rfl, hr, hb⟩
        have HH11 := Lib.hid (HH10.out.below hb)
        have HR11 := Lib.hid (HR10.out.below hb)
        have HS11 := Lib.hid (HS10.out.below hb)
        have HT11 := Lib.hid hr
        have HB11 : Hid (Below w.heap.size w w11) := HB10.out.trans (hb.mono HB10.out.size)
        clear hb hr HH10 HR10 HB10 HS10
        go_wp2_with fail
        refine (hs_sameho HS11.out HT11.out hopl hopl HPL.out HPL.out).mono ?_
        rintro e w12 ⟨rfl, hb⟩
        have HH12 := Lib.hid (HH11.out.below hb)
        have HR12 := Lib.hid (HR11.out.below hb)
        have HB12 : Hid (Below w.heap.size w w12) := HB11.out.trans (hb.mono HB11.out.size)
        have hd1 : decide (opO so2 = opO so2) = true := by simp
        rw [hd1]
        clear hb HH11 HR11 HB11 HS11 HT11 hd1 HPL hspl hopl HZW
        go_wp2_with fail
        go_roundw
        case rel => exact ⟨i + 1, so2, by go_num, hlt, HH12, HR12, HZN, HB12⟩
        case measure => simp [intOf]; omega
    · have hi' : i = n := by omega
      subst hi'
      go_wp2_with fail
      go_ret
      exact ⟨rfl, HB.out⟩
end Go.Proofs.YtkdbenoleendcaaGreatDoor
