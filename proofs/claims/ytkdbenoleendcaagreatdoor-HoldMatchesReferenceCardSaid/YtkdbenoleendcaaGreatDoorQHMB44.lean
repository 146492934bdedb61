/- foyerref26: Swap. -/
import Derived.Test.YtkdbenoleendcaaGreatDoorQHMB43

namespace Go.Proofs.YtkdbenoleendcaaGreatDoor
open Go.RowKit Go.IntWalk Go.Maps Go.WideMaps

/-- An error; the Holds that is left. -/
def RErrPost (g B : Nat) (r : Int × St) (w : World) (e : Ending) (w' : World) : Prop :=
  e = .returned (.int .i64 r.1) ∧ RS w' g B r.2 ∧ Upd (Gb g) w w'

/-- An append whose run is known. -/
theorem wpList_run_append {P : Program} {ops : Array Oper} {rest : List Oper} {o : Oper} {a : Act} {Q : Exit → Act → World → Prop} (hgd : o.guard = none) (s x : Operand) (t : TypeId)
    (ho : o.op = .call { callee := .builtin .append, args := #[s, x], argTypes := #[t, t] }) {v u res : Value} {w w' : World} (ty : TypeId) (hty : o.type = ty)
    (hr : (Builtin.append_ #[t, t] ty #[v, u]).run P w = .ok res w') (hs : a.eval s = v) (hx : a.eval x = u) (h : wpList P ops Q rest (a.put o.dst res) w') : wpList P ops Q (o :: rest) a w :=
  wpList_plain hgd fun _ hK => by
    unfold Oper.wp execOp
    simp only [ho, hty, resolve, invoke, builtin, Sem.run_bind, Sem.run_pure, Result.andThen_ok, List.map_toArray, List.map_cons, List.map_nil, hs, hx, hr]
    exact hK _ _ h

theorem HLst.set {w w' : World} {b i : Nat} {E : List OwnT} (h : HLst w (some ⟨b, 0, none⟩) E) (hi : i < E.length) {L : List Int} {pb pc : Nat} (hg : w' = w.setCell ⟨b, i * 6 + 3, none⟩ (.slice (some ⟨pb, 0, none⟩) L.length pc)) (hp : IntRow w pb 3 L) :
    HLst w' (some ⟨b, 0, none⟩) (E.set i ((E[i].1.1, E[i].1.2.1, L, E[i].1.2.2.2), (some ⟨pb, 0, none⟩, pc))) := by
  subst hg
  obtain ⟨b', e, hr⟩ := h.1 (by omega)
  cases e
  have hU : w.grownBy (w.setCell ⟨b, i * 6 + 3, none⟩ (.slice (some ⟨pb, 0, none⟩) L.length pc)) (some b) := grown_setCell _ _ _ _
  have hkeep : ∀ {q : Nat} {D : List Int}, IntRow w q 3 D → IntRow (w.setCell ⟨b, i * 6 + 3, none⟩ (.slice (some ⟨pb, 0, none⟩) L.length pc)) q 3 D := fun {q D} hq => by
    obtain ⟨arr, ha, r⟩ := hq
    obtain ⟨arr2, ha2, _⟩ := hr
    refine ⟨arr, (hU.block q (lt_of_block ha) (fun e => ?_)).trans ha, r⟩
    have e : q = b := by simpa using e
    subst e
    rw [ha] at ha2
    simp only [Option.some.injEq, Obj.cells.injEq] at ha2
    exact absurd ha2.2.1 (by decide)
  refine ⟨fun _ => ⟨b, rfl, RecRow.put hr i 3 _ _ hi (by omega) (fun q hq => ?_)⟩, fun x hx => ?_⟩
  · rw [rc_eq _ _ hi]
    have : q = 0 ∨ q = 1 ∨ q = 2 ∨ q = 3 ∨ q = 4 ∨ q = 5 := by omega
    rcases this with rfl | rfl | rfl | rfl | rfl | rfl <;> rfl
  · rcases List.mem_or_eq_of_mem_set hx with hx | rfl
    · obtain ⟨b', e, hb, r⟩ := h.2 x hx
      exact ⟨b', e, hb, hkeep r⟩
    · exact ⟨pb, rfl, trivial, hkeep hp⟩

set_option maxRecDepth 100000 in
set_option maxHeartbeats 3200000 in
theorem rswap_any (w : World) (g B : Nat) (st : St) (id : Int) (l : List Int) (pa : Option Addr) (m mc : Nat) (h : RS w g B st)
    (hsp : st.sp.length ≤ 4000) (hla : st.last ≤ 1000) (hm : m ≤ 4000) (hmc : m ≤ mc) (hL : ∀ wx, Upd (Gb g) w wx → Ints wx pa m l) :
    Calls Tryz.prog 10 #[.pointer (some ⟨g, 0, none⟩), .int .i64 id, .slice pa m mc] w (RErrPost g B (swapS st id l) w) := by
  obtain ⟨hBw, hinv, oa, oc, sa, sc, E, hc, hsaB⟩ := h
  have HBW := Lib.hid hBw
  have HH := Lib.hid hc
  have HI := Lib.hid hinv
  have HL := Lib.hid hL
  have hol := inv_len hinv
  have g0 := hc.c0
  have g1 := hc.c1
  have hRS : Hid (RS w g B st) := ⟨hBw, hinv, oa, oc, sa, sc, E, hc, hsaB⟩
  have HLM := Lib.hid (hL w (Upd.refl _ _)).1
  clear hc hinv hL hBw hsaB
  go_enter Tryz.func10, Tryz.ntmps10
  go_wp2_with fail
  refine (rchoice_any pa m mc st.sp.length l w (HL.out w (Upd.refl _ _)) (by omega) hmc).mono ?_
  rintro e w1 ⟨rfl, hq⟩
  have HB1 : Hid (Below w.heap.size w w1) := hq.below
  have HR1 : Hid (RS w1 g B st) := hRS.out.below hq.below
  have HH1 := Lib.hid (HH.out.below hq.below)
  clear hq hRS g0 g1
  cases hch : choiceB st.sp.length l
  · have HS : Hid (swapS st id l = (1, st)) := by
      show _ = _
      unfold swapS
      rw [if_pos hch]
    go_wp2_with fail
    go_ret
    exact ⟨by rw [HS.out]; rfl, by rw [HS.out]; exact HR1.out, Upd.of_below HB1.out⟩
  have HCH := Lib.hid hch
  have HCS := Lib.hid (choice_iff.mp hch)
  clear hch
  go_wp2_with fail
  refine (find_any w1 g oa sa oc sc E st id HH1.out (by omega)).mono ?_
  rintro e w1' ⟨rfl, hf⟩
  rcases hf with ⟨hf, rfl⟩ | ⟨i, hi, hid, rfl⟩
  · have HS : Hid (swapS st id l = (11, st)) := by
      show _ = _
      unfold swapS
      rw [if_neg (by rw [HCH.out]; simp), hf]
    clear hf
    go_wp2_with fail
    go_ret
    exact ⟨by rw [HS.out]; rfl, by rw [HS.out]; exact HR1.out, Upd.of_below HB1.out⟩
  have hfa := find_at HI.out hi hid
  have HRF : Hid (rfreeB st.sp id l = !l.any (takenB (markS st.sp (st.op[i]).2.2.1 (0, 0)))) := by
    show _ = _
    have := rfree_id HI.out (List.getElem_mem hi) HCS.out.2.1
    rwa [hid] at this
  have HFA := Lib.hid hfa
  have HID := Lib.hid hid
  have hil : i ≤ 1000 := by omega
  clear hfa hid
  go_wp2_with fail
  refine (rfree_any w1 g oa sa oc sc E st l pa m mc id HH1.out hm HCS.out.2.1 (HL.out w1 (Upd.of_below HB1.out))).mono ?_
  rintro e w2 ⟨rfl, hb2⟩
  have HB2 : Hid (Below w.heap.size w w2) := HB1.out.trans (hb2.mono HB1.out.size)
  have HH2 := Lib.hid (HH1.out.below hb2)
  have HR2 : Hid (RS w2 g B st) := HR1.out.below hb2
  rw [HRF.out]
  clear hb2 HH1 HR1 HRF
  cases han : l.any (takenB (markS st.sp (st.op[i]).2.2.1 (0, 0)))
  · have HAN := Lib.hid han
    have hiE : i < E.length := by rw [HH2.out.elen]; exact hi
    have hx : E[i].1 = st.op[i] := map_at HH2.out.ops hiE (List.getElem?_eq_getElem hi)
    have HX := Lib.hid hx
    have k0 := HH2.out.c0
    obtain ⟨b, o, hoa, c0, c1, c2, c3, c4, c5⟩ := own_at HH2.out.opn.recs i hiE hiE
    subst hoa
    obtain ⟨pb, hpb, hpr⟩ := (HH2.out.opn.2 _ (List.getElem_mem hiE)).row
    obtain ⟨n, hnn⟩ : ∃ n, st.op.length = n := ⟨_, rfl⟩
    have HNN := Lib.hid hnn
    have hin : i < n := by omega
    have hn1 : n ≤ 1000 := by omega
    rw [hnn] at k0
    rw [hx] at c3 hpr
    have hpch := choice_iff.mp (HI.out.chs _ (List.getElem_mem hi))
    have HLP : Hid ((st.op[i]).2.2.1.length ≤ 4000) := by show _ ≤ _; omega
    have HS1 := Lib.hid (set_any w2 g (some ⟨b, o, none⟩) sa oc sc E st (st.op[i]).2.2.1 (some ⟨pb, 0, none⟩) (st.op[i]).2.2.1.length E[i].2.2 0 0 HH2.out HLP.out hsp hpch.1.1 hpch.2.1 hpr.ints)
    rw [hpb] at c3
    generalize E[i].2.2 = xc at *
    generalize hPP : (st.op[i]).2.2.1 = P at *
    have HPP := Lib.hid hPP
    clear hPP c0 c1 c2 c4 c5 hpr hpch hx hnn han hpb HLP hol
    go_wp2_with fail
    refine HS1.out.mono ?_
    rintro e w3 ⟨sa3, sc3, rfl, hh3, hu3, hfr3⟩
    have HH3 := Lib.hid hh3
    have HU3 : Hid (Upd (Gb g) w w3) := (Upd.of_below HB2.out).trans hu3
    have HS2 := Lib.hid (set_any w3 g (some ⟨b, o, none⟩) sa3 oc sc3 E ⟨markS st.sp P (0, 0), st.last, st.op⟩ l pa m mc 1 id hh3 hm (by dsimp only; rw [mark_len]; exact hsp) (by have := HCS.out.1; have := HLM.out; omega) (by dsimp only; rw [mark_len]; exact HCS.out.2.1) (HL.out w3 HU3.out))
    dsimp only at HS2
    clear hh3 hu3 hfr3 HS1 k0 c3
    go_wp2_with fail
    refine HS2.out.mono ?_
    rintro e w4 ⟨sa4, sc4, rfl, hh4, hu4, hfr4⟩
    have HH4 := Lib.hid hh4
    have HU4 : Hid (Upd (Gb g) w w4) := HU3.out.trans hu4
    have HFR4 : Hid (∀ b o, sa4 = some ⟨b, o, none⟩ → B ≤ b) := fun b o e => Nat.le_trans (Nat.le_trans HBW.out HU3.out.size) (hfr4 b o e)
    have k0 := hh4.c0
    dsimp only at k0
    rw [HNN.out] at k0
    clear hh4 hu4 hfr4 HS2
    have HE4 : Hid (E.length = n) := HH4.out.elen.trans HNN.out
    have hrec := HH4.out.opn.recs
    rw [HE4.out] at hrec
    have HREC := Lib.hid hrec
    have HHL := Lib.hid HH4.out.opn
    clear hrec
    go_upto_region 10 with fail
    have HB5 : Hid (Below w4.heap.size w4 (w4.alloc (.cells #[] 51))) := Joins.below_alloc1 w4 _
    have HOW : Hid ((w4.alloc (.cells #[] 51)).ownsRow w4.heap.size 51 6 (.slice (some ⟨w4.heap.size, 0, none⟩) 0 0) 0 []) := World.ownsRow_made (e := 51) (size := 6) w4 #[] 0 (Nat.le_refl _) (by unfold maxLen; omega) rfl
    obtain ⟨u, w6, hr, hb6, ho6, hf1, hf2⟩ := copy_holds (w4.alloc (.cells #[] 51)) w4.heap.size w4.heap.size (some ⟨b, o, none⟩) n oc E HB5.out.size (by omega) (HREC.out.below HB5.out) HOW.out
    obtain ⟨b6, c6, rfl, hc6, hbb6, hjunk, hrr6⟩ := RecRow.of_row (E := OwnE) (xs := E) (n := n) (by omega) ho6
    have HCP := Lib.hid hr
    have HB6 : Hid (Below w4.heap.size w4 w6) := HB5.out.trans (hb6.mono HB5.out.size)
    have HR6 := Lib.hid hrr6
    have HBB := Lib.hid hbb6
    have HC6 := Lib.hid hc6
    have k5 : (w4.alloc (.cells #[] 51)).cell? ⟨g, 0, none⟩ = some (.slice (some ⟨b, o, none⟩) n oc) := Below.cell_of HB5.out k0
    clear k0 hb6 ho6 hf1 hf2 hr HOW hjunk hrr6 hbb6 hc6
    go_upto_region 11 with (at_builtin; refine wpList_run_append rfl _ _ 47 rfl 47 rfl HCP.out rfl rfl ?_)
    clear HCP k5
    have HB7 : Hid (Below w4.heap.size w4 (w6.alloc (.cells #[] 3))) := HB6.out.trans ((Joins.below_alloc1 w6 _).mono HB6.out.size)
    have HOI : Hid ((w6.alloc (.cells #[] 3)).ownsRow w6.heap.size 3 1 (.slice (some ⟨w6.heap.size, 0, none⟩) 0 0) 0 []) := World.ownsRow_made (e := 3) (size := 1) w6 #[] 0 (Nat.le_refl _) (by unfold maxLen; omega) rfl
    obtain ⟨b8, c8, w8, hr, hb8, hir8, hbb8⟩ := copy_nums (w6.alloc (.cells #[] 3)) w6.heap.size w6.heap.size pa m mc l (Joins.below_alloc1 w6 _).size (by omega) (by have := HCS.out.1; have := HLM.out; omega) (HL.out _ (HU4.out.trans (Upd.of_below HB7.out))) HOI.out
    have HCP := Lib.hid hr
    have HB8 : Hid (Below w4.heap.size w4 w8) := HB7.out.trans (hb8.mono HB7.out.size)
    have HB68 : Hid (Below w6.heap.size w6 w8) := (Joins.below_alloc1 w6 _).trans (hb8.mono (Joins.below_alloc1 w6 (.cells #[] 3)).size)
    have HI8 := Lib.hid hir8
    have HL8 : Hid (HLst w8 (some ⟨b6, 0, none⟩) E) := (⟨fun _ => ⟨b6, rfl, HR6.out.below HB68.out⟩, (HHL.out.below HB8.out).2⟩ : HLst w8 (some ⟨b6, 0, none⟩) E)
    have k3 := (HR6.out.below HB68.out).cell i 3 hiE (by omega)
    have f3 := (HR6.out.below HB68.out).free (i * 6 + 3)
    clear hr hb8 hir8 hbb8 HOI
    go_upto_region 12 with (at_builtin; refine wpList_run_append rfl _ _ 29 rfl 29 rfl HCP.out rfl rfl ?_)
    have HL9 : Hid (HLst (w8.setCell ⟨b6, i * 6 + 3, none⟩ (.slice (some ⟨b8, 0, none⟩) m c8)) (some ⟨b6, 0, none⟩) (E.set i ((E[i].1.1, E[i].1.2.1, l, E[i].1.2.2.2), (some ⟨b8, 0, none⟩, c8)))) :=
      HL8.out.set hiE (by rw [HLM.out]) HI8.out
    have hG9 : Hid (w8.grownBy (w8.setCell ⟨b6, i * 6 + 3, none⟩ (.slice (some ⟨b8, 0, none⟩) m c8)) (some b6)) := grown_setCell _ _ _ _
    generalize w8.setCell ⟨b6, i * 6 + 3, none⟩ (.slice (some ⟨b8, 0, none⟩) m c8) = w9 at *
    have HB9 : Hid (Below w4.heap.size w4 w9) := HB8.out.grown hG9.out HB8.out.size (fun r e => by cases e; exact HBB.out)
    clear k3 f3 HCP HI8 HB8 HB68 hG9 HL8
    have HH9 := Lib.hid (HH4.out.below HB9.out)
    have z0 := HH9.out.c0
    have f0 := HH9.out.fr 0
    have HBK : Hid ((w9.setCell ⟨g, 0, none⟩ (.slice (some ⟨b6, 0, none⟩) n c6)).heap[g]? = some (.cells #[.slice (some ⟨b6, 0, none⟩) n c6, .slice sa4 st.sp.length sc4, .int .i64 st.last] 58 (0, 0))) := by
      have := HH9.out.blk
      dsimp only at this
      rw [mark_len, mark_len] at this
      show _ = _
      simp [World.setCell, Array.getElem?_modify, this]
    have hG10 : Hid (w9.grownBy (w9.setCell ⟨g, 0, none⟩ (.slice (some ⟨b6, 0, none⟩) n c6)) (some g)) := grown_setCell _ _ _ _
    go_upto_region 13 with fail
    generalize w9.setCell ⟨g, 0, none⟩ (.slice (some ⟨b6, 0, none⟩) n c6) = w10 at *
    have HU910 : Hid (Upd (Gb g) w9 w10) := Upd.of_row hG10.out (fun b e => by cases e; rfl)
    have HU10 : Hid (Upd (Gb g) w w10) := HU4.out.trans ((Upd.of_below HB9.out).trans HU910.out)
    have hop : (E.set i ((E[i].1.1, E[i].1.2.1, l, E[i].1.2.2.2), ((some ⟨b8, 0, none⟩ : Option Addr), c8))).map (·.1) = setPl st.op id l := by
      have h1 := setPl_set HI.out hi (l := l)
      rw [HID.out] at h1
      rw [h1, List.map_set, HH4.out.ops]
      dsimp only
      rw [HX.out, HID.out]
    have hlen : (setPl st.op id l).length = n := by rw [← hop, List.length_map, List.length_set]; exact HE4.out
    have HH10 : Hid (RefC w10 g (some ⟨b6, 0, none⟩) c6 sa4 sc4 (E.set i ((E[i].1.1, E[i].1.2.1, l, E[i].1.2.2.2), (some ⟨b8, 0, none⟩, c8))) ⟨markS (markS st.sp P (0, 0)) l (1, id), st.last, setPl st.op id l⟩) := by
      refine ⟨?_, HL9.out.upd HU910.out (fun b' arr ty x hb hty => HH9.out.not_g hb (by rcases hty with rfl | rfl <;> decide)), hop, HH9.out.sps.upd HU910.out (fun b' arr x hb => HH9.out.not_g hb (by decide)), ?_⟩
      · rw [HBK.out]
        dsimp only
        rw [mark_len, mark_len, hlen]
      · dsimp only
        rw [hlen]
        exact HC6.out
    have HS : Hid (swapS st id l = (0, ⟨markS (markS st.sp P (0, 0)) l (1, id), st.last, setPl st.op id l⟩)) := by
      show _ = _
      unfold swapS
      rw [if_neg (by rw [HCH.out]; simp), HFA.out]
      dsimp only
      rw [HPP.out, if_neg (by rw [HAN.out]; simp)]
    have hI := swap_inv HI.out id l
    rw [HS.out] at hI
    have HII := Lib.hid hI
    clear hI hop hlen HBK hG10 z0 f0 HL9 HH9
    go_wp2_with fail
    go_ret
    rw [HS.out]
    exact ⟨rfl, ⟨Nat.le_trans HBW.out HU10.out.size, HII.out, _, _, _, _, _, HH10.out, HFR4.out⟩, HU10.out⟩
  · have HS : Hid (swapS st id l = (16, st)) := by
      have h1 : (swapS st id l).1 = 16 := by
        unfold swapS
        rw [if_neg (by rw [HCH.out]; simp), HFA.out]
        dsimp only
        rw [if_pos han]
      have h2 := swap_same HI.out (id := id) (l := l) (by rw [h1]; decide)
      show _ = _
      exact Prod.ext h1 h2
    clear han
    go_wp2_with fail
    go_ret
    exact ⟨by rw [HS.out]; rfl, by rw [HS.out]; exact HR2.out, Upd.of_below HB2.out⟩
end Go.Proofs.YtkdbenoleendcaaGreatDoor
