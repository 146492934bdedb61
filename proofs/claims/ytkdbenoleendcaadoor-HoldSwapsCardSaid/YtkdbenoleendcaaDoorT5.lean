/- hold: HoldSwaps, the walk. -/
import Derived.Test.YtkdbenoleendcaaDoorT4
namespace Go.Proofs.YtkdbenoleendcaaDoor
open Go.RowKit Go.IntWalk Go.Maps Go.WideMaps

/-- A list of open holds, where each lies. -/
def HLst (w : World) (la : Option Addr) (E : List OwnT) : Prop :=
  (0 < E.length → ∃ b, la = some ⟨b, 0, none⟩ ∧ RecRow OwnE w b 33 E) ∧ ∀ x ∈ E, PlAt w TT x

theorem HRow.lst {w : World} {v : Value} {op : List HoldT} (h : HRow w v op) : ∃ E la c, v = .slice la E.length c ∧ E.map (·.1) = op ∧ HLst w la E ∧ E.length ≤ c :=
  let ⟨E, la, c, e, ho, hr, hp, hc⟩ := h; ⟨E, la, c, e, ho, ⟨hr, hp⟩, hc⟩
theorem HLst.below {w w' : World} {la : Option Addr} {E : List OwnT} (h : HLst w la E) (hb : Below w.heap.size w w') : HLst w' la E :=
  ⟨fun hn => let ⟨b, e, r⟩ := h.1 hn; ⟨b, e, r.below hb⟩, fun x hx => (h.2 x hx).keep (T := fun _ => False) (Upd.of_below hb) (fun _ _ h => h)⟩
theorem HLst.keep {w w' : World} {la : Option Addr} {E : List OwnT} (h : HLst w la E) {g M sb : Nat} {st : St} (hs : HS w g M sb st) (hu : Upd (Own3 g M sb) w w') : HLst w' la E := by
  refine ⟨fun hn => ?_, fun x hx => ?_⟩
  · obtain ⟨b, e, arr, ha, r⟩ := h.1 hn
    exact ⟨b, e, arr, (hu.block b (lt_of_block ha) (hs.not_own ha (by decide) (by decide))).trans ha, r⟩
  · obtain ⟨b, e, hb, arr, ha, r⟩ := h.2 x hx
    exact ⟨b, e, hb, arr, (hu.block b (lt_of_block ha) (hs.not_own ha (by decide) (by decide))).trans ha, r⟩
theorem HLst.recs {w : World} {la : Option Addr} {E : List OwnT} (h : HLst w la E) : Recs OwnE w la E.length E := by
  refine ⟨rfl, fun i hi => ?_⟩
  obtain ⟨b, e, r⟩ := h.1 (by omega)
  exact ⟨b, 0, e, fun j hj => by rw [Nat.zero_add]; exact r.cell i j hi hj⟩
theorem HLst.pl {w : World} {la : Option Addr} {E : List OwnT} (h : HLst w la E) (hp : ∀ x ∈ E, x.1.2.2.1.length ≤ 4000) : ∀ x ∈ E, PlIn w x := fun x hx => by
  obtain ⟨b, e, _, r⟩ := h.2 x hx
  refine ⟨hp x hx, ?_⟩
  rw [e]
  exact r.ints

theorem HLst.row {w : World} {la : Option Addr} {E : List OwnT} {op : List HoldT} {m c : Nat} (h : HLst w la E) (he : E.map (·.1) = op) (hm : E.length = m) (hc : m ≤ c) : HRow w (.slice la m c) op :=
  ⟨E, la, c, by rw [hm], he, h.1, h.2, by omega⟩

theorem recs_take {w : World} {la : Option Addr} {n : Nat} {E : List OwnT} (h : Recs OwnE w la n E) (i : Nat) (hi : i ≤ n) : Recs OwnE w la i (E.take i) := by
  have hl := h.1
  refine ⟨by simp; omega, fun k hk => ?_⟩
  obtain ⟨b, o, e, c⟩ := h.2 k (by omega)
  refine ⟨b, o, e, fun j hj => ?_⟩
  rw [c j hj, rc_eq _ _ (by omega), rc_eq _ _ (by simp; omega), List.getElem_take]

theorem recs_drop {w : World} {b o : Nat} {n : Nat} {E : List OwnT} (h : Recs OwnE w (some ⟨b, o, none⟩) n E) (i : Nat) (hi : i ≤ n) : Recs OwnE w (some ⟨b, o + i * 6, none⟩) (n - i) (E.drop i) := by
  have hl := h.1
  refine ⟨by simp; omega, fun k hk => ⟨b, o + i * 6, rfl, fun j hj => ?_⟩⟩
  obtain ⟨b', o', e, c⟩ := h.2 (i + k) (by omega)
  cases e
  have := c j hj
  rw [show o + (i + k) * 6 + j = o + i * 6 + k * 6 + j from by omega] at this
  rw [this, rc_eq _ _ (by omega), rc_eq _ _ (by simp; omega), List.getElem_drop]

theorem recs_nil {w : World} {la : Option Addr} : Recs OwnE w la 0 [] := ⟨rfl, fun i hi => by omega⟩

theorem setPl_parts {st : St} (hi : Inv st) {i : Nat} (h : i < st.op.length) (l : List Int) :
    (setPl st.op (st.op[i]).1 l).take i = st.op.take i ∧ (setPl st.op (st.op[i]).1 l).drop (i + 1) = st.op.drop (i + 1) ∧ (setPl st.op (st.op[i]).1 l)[i]? = some ((st.op[i]).1, (st.op[i]).2.1, l, (st.op[i]).2.2.2) := by
  rw [setPl_set hi h]
  refine ⟨?_, ?_, ?_⟩
  · rw [List.take_set_of_le (Nat.le_refl _)]
  · rw [List.drop_set_of_lt (Nat.lt_succ_self _)]
  · rw [List.getElem?_set_self h]

theorem map_take {E : List OwnT} {op : List HoldT} (h : E.map (·.1) = op) (i : Nat) : (E.take i).map (·.1) = op.take i := by rw [← h, List.map_take]
theorem map_drop {E : List OwnT} {op : List HoldT} (h : E.map (·.1) = op) (i : Nat) : (E.drop i).map (·.1) = op.drop i := by rw [← h, List.map_drop]
theorem map_at {E : List OwnT} {op : List HoldT} (h : E.map (·.1) = op) {i : Nat} {x : HoldT} (hi : i < E.length) (hx : op[i]? = some x) : E[i].1 = x := by
  rw [← h, List.getElem?_map, List.getElem?_eq_getElem hi] at hx
  simpa using hx

theorem wrap_next {i m : Nat} (h : i < m) (hm : m ≤ 40) : IntKind.i64.wrap ((i : Int) + 1) = (i : Int) + 1 := i64_in _ (by omega)

theorem recs_rest {w : World} {b o n c : Nat} {E : List OwnT} (h : Recs OwnE w (some ⟨b, o, none⟩) n E) (i : Nat) (hi : i ≤ n) (hc : n ≤ c) : Recs OwnE w (if c = i then some ⟨b, o, none⟩ else some ⟨b, o + i * 6, none⟩) (n - i) (E.drop i) := by
  by_cases e : c = i
  · rw [if_pos e]
    have hn : n = i := by omega
    have hl := h.1
    rw [show n - i = 0 from by omega, List.drop_of_length_le (by omega)]
    exact recs_nil
  · rw [if_neg e]
    exact recs_drop h i hi

/-- The hold with its old places, as a slice of one. -/
theorem one_back {w : World} {b : Nat} {id : Int} {nm' : NmT} {L : List Int} {til cls : Int} {xa : Option Addr} {xc : Nat} {ei : OwnT} (h : w.heap[b]? = some (.cells #[.int .i64 id, .string (bs nm'), .int .i64 0, .slice xa L.length xc, .int .i64 til, .int .i64 cls] 33 (0, 0)))
    (h1 : ei = (ei.1, xa, xc)) (h2 : ei.1 = (id, nm', L, til, cls)) : Recs OwnE w (some ⟨b, 0, none⟩) 1 [ei] := by
  rw [h1, h2]
  refine ⟨rfl, fun i hi => ⟨b, 0, rfl, fun j hj => ?_⟩⟩
  have h0 : i = 0 := by omega
  subst h0
  rw [rc_eq _ _ (by simp), cell_of_row _ _ _ _ _ _ h]
  have : j = 0 ∨ j = 1 ∨ j = 2 ∨ j = 3 ∨ j = 4 ∨ j = 5 := by omega
  rcases this with rfl | rfl | rfl | rfl | rfl | rfl <;> rfl

theorem one_at {w : World} {b o : Nat} {E : List OwnT} (h : HLst w (some ⟨b, o, none⟩) E) {i : Nat} {ei : OwnT} (hi : E[i]? = some ei) : Recs OwnE w (some ⟨b, o + i * 6, none⟩) 1 [ei] := by
  obtain ⟨hiE, rfl⟩ := List.getElem?_eq_some_iff.mp hi
  refine ⟨rfl, fun j hj => ⟨b, o + i * 6, rfl, fun k hk => ?_⟩⟩
  obtain ⟨b', o', e', c⟩ := h.recs.2 i hiE
  cases e'
  have h0 : j = 0 := by omega
  subst h0
  have := c k hk
  rw [rc_eq _ _ (by simp)]
  rw [rc_eq _ _ hiE] at this
  simpa using this

set_option maxRecDepth 100000 in
set_option maxHeartbeats 6400000 in
theorem swaps_any (p : Nat) (hp : p ≤ 255) (ra : Option Addr) (n c B : Nat) (rs : List OpR) (u : Nat) (hu : u ≤ 255) (rb : Option Addr) (nb cb : Nat) (Lc : List Int) (w : World) (h : Recs OpE w ra n rs) (ho : OpsIn w B rs) (hn : n ≤ 9223372036854775807) (hnb : nb ≤ 9223372036854775807) (hI : Ints w rb nb Lc) :
    Calls Tryd.prog 6 #[.int .u8 p, .slice ra n c, .int .u8 u, .slice rb nb cb] w fun e w' => e = .returned (.bool true) ∧ Below w.heap.size w w' := by
  have HM := Lib.hid h
  have HO := Lib.hid ho
  have HCI := Lib.hid hI
  have hcl := hI.1
  clear h ho hI
  subst hcl
  have hcl : True := trivial
  go_enter Tryd.func6, Tryd.ntmps6
  go_wp2_with fail
  refine (head_any w).mono ?_
  rintro e w1 ⟨rfl, hb1⟩
  have HB1 := Lib.hid hb1
  clear hb1
  go_wp2_with fail
  refine (few_any ra n c B rs w1 (HM.out.below HB1.out) (HO.out.below HB1.out) hn).mono ?_
  rintro e w' ⟨rfl, rfl⟩
  cases hf : fewB (rs.map (·.1))
  · go_wp2_with fail
    go_ret
    exact ⟨rfl, HB1.out⟩
  have HF := Lib.hid hf
  clear hf
  by_cases h20 : 20 < Lc.length
  · go_wp2_with fail
    go_ret
    exact ⟨rfl, HB1.out⟩
  go_wp2_with fail
  refine (played_any p hp ra n c B rs w1 (HM.out.below HB1.out) (HO.out.below HB1.out) HF.out).mono ?_
  rintro e w2 ⟨g, M, sb, rfl, hb2, hh2, ho2⟩
  have H2 : Hid (Hd w1 w2 g M sb (playN p (rs.map (·.1)))) := ⟨hb2, hh2, ho2⟩
  have hlast : (playN p (rs.map (·.1))).last ≤ 40 := by
    have h1 := playN_last p (rs.map (·.1))
    have h2 := (fewB_iff.mp HF.out).2
    omega
  have hspl : (playN p (rs.map (·.1))).sp.length ≤ 20 := by rw [playN_len]; omega
  have HI := Lib.hid (playN_inv p (rs.map (·.1)))
  have hol := inv_len HI.out
  obtain ⟨st, hst⟩ : ∃ st, st = playN p (rs.map (·.1)) := ⟨_, rfl⟩
  rw [← hst] at H2 hlast hspl HI hol
  clear hb2 hh2 ho2 hst HF HM HO
  go_wp2_with fail
  refine (hs_list H2.out.hs (by omega)).mono ?_
  rintro e w3 ⟨vw, rfl, hb3, _, hr3⟩
  have H3 := Lib.hid (H2.out.next hb3)
  obtain ⟨E, la, lc, rfl, hE, hL, hcap⟩ := hr3.lst
  have HL3 := Lib.hid hL
  have HE := Lib.hid hE
  have hEl : E.length = st.op.length := by rw [← hE, List.length_map]
  obtain ⟨m, hm⟩ : ∃ m, E.length = m := ⟨_, rfl⟩
  rw [hm] at hEl hcap ⊢
  have HMM := Lib.hid hm
  have HEL := Lib.hid hEl
  have hmo : m ≤ st.last := by rw [hEl]; exact hol
  clear hb3 hr3 H2 hL hE hm hEl
  go_wp2_with fail
  refine (hs_spaces H3.out.hs (by omega)).mono ?_
  rintro e w4 ⟨vb, rfl, hb4, _, hr4⟩
  have H4 := Lib.hid (H3.out.next hb4)
  have RB4 := Lib.hid hr4
  have HL4 := Lib.hid (HL3.out.below hb4)
  have HSB : Hid (∀ i, Own3 g M sb i → i < w3.heap.size) := fun i hi => H3.out.hs.lt hi
  clear hb4 hr4 H3 HL3
  by_cases hm0 : m = 0
  · have hz : ((m : Int) == 0) = true := by rw [hm0]; rfl
    go_wp2_with fail
    go_ret
    exact ⟨rfl, HB1.out.trans (H4.out.below.mono HB1.out.size)⟩
  have hz : ((m : Int) == 0) = false := beq_eq_false_iff_ne.mpr (by omega)
  have hm40 : m ≤ 40 := by omega
  have hmod : (u : Int) % (m : Int) = ((u % m : Nat) : Int) := by omega
  have hil : u % m < m := Nat.mod_lt _ (by omega)
  obtain ⟨i, hi⟩ : ∃ i, i = u % m := ⟨_, rfl⟩
  rw [← hi] at hmod hil
  clear hi
  have hiE : i < E.length := by rw [HMM.out]; exact hil
  have hio : i < st.op.length := by rw [← HEL.out]; exact hil
  have hx : E[i].1 = st.op[i] := map_at HE.out hiE (List.getElem?_eq_getElem hio)
  have hid := HI.out.rng _ (List.getElem_mem hio)
  -- the cells of the hold
  obtain ⟨b, o, rfl, hjunk⟩ := own_at HL4.out.recs i (by omega) hiE
  clear hjunk
  have HCE : Hid (∀ wx, HLst wx (some ⟨b, o, none⟩) E → wx.cell? ⟨b, o + i * 6, none⟩ = some (.int .i64 (st.op[i]).1) ∧ wx.cell? ⟨b, o + i * 6 + 3, none⟩ = some (.slice E[i].2.1 (st.op[i]).2.2.1.length E[i].2.2) ∧ Ints wx E[i].2.1 (st.op[i]).2.2.1.length (st.op[i]).2.2.1) := fun wx hl => by
    obtain ⟨b', o', e, c0, _, _, c3, _⟩ := own_at hl.recs i (by omega) hiE
    cases e
    obtain ⟨bp, ep, _, r⟩ := hl.2 _ (List.getElem_mem hiE)
    have hI := r.ints
    rw [← ep] at hI
    rw [hx] at c0 c3 hI
    exact ⟨c0, c3, hI⟩
  obtain ⟨xa, hxa⟩ : ∃ xa, E[i].2.1 = xa := ⟨_, rfl⟩
  obtain ⟨xc, hxc⟩ : ∃ xc, E[i].2.2 = xc := ⟨_, rfl⟩
  have HXA := Lib.hid hxa
  have HXC := Lib.hid hxc
  have HX1 := Lib.hid hx
  rw [hxa, hxc] at HCE
  clear hxa hxc hx
  obtain ⟨c0, c3, hI4⟩ := HCE.out w4 HL4.out
  have hchl := (choice_iff.mp (HI.out.chs _ (List.getElem_mem hio))).1.2
  have HIW : Hid ((Lit.int .i64 (st.op[i]).1).wf = true) := by
    show _ = _
    simp only [Lit.wf, show IntKind.i64.min = -9223372036854775808 from by decide, show IntKind.i64.max = 9223372036854775807 from by decide]; simp; omega
  have HC := Lib.hid (hs_swap H4.out.hs (by omega) (by omega) (st.op[i]).1 HIW.out Lc rb Lc.length cb (by omega) (fun wx hu => HCI.out.below (HB1.out.trans ((Upd.below H4.out.below hu H4.out.own).mono HB1.out.size))))
  obtain ⟨er, her⟩ : ∃ er, (swapS st (st.op[i]).1 Lc).1 = er := ⟨_, rfl⟩
  rw [her] at HC
  have HER := Lib.hid her
  clear hid her
  go_wp2_with fail
  refine HC.out.mono ?_
  rintro e w5 ⟨rfl, hh, hu5⟩
  have H5 := Lib.hid (H4.out.step hh hu5)
  have HL5 := Lib.hid (HL4.out.keep H4.out.hs hu5)
  have RB5 := Lib.hid (RB4.out.keep HSB.out hu5)
  clear hh hu5 HC c0 c3 hI4 HL4 RB4 H4
  by_cases he : er = 0
  · have hez : (er == 0) = true := by simp [he]
    have hez2 : (er != 0) = false := by simp [he]
    subst he
    obtain ⟨x, hsw⟩ := swap_ok HI.out HER.out
    have hxx : x = st.op[i] := HI.out.uniq hsw.mem (List.getElem_mem hio) hsw.hid
    subst hxx
    have HSW := Lib.hid hsw
    have hspn : (swapS st (st.op[i]).1 Lc).2.sp.length = st.sp.length := by rw [hsw.out]; dsimp only; rw [mark_len, mark_len]
    have hlan : (swapS st (st.op[i]).1 Lc).2.last = st.last := by rw [hsw.out]
    have hopn : (swapS st (st.op[i]).1 Lc).2.op = setPl st.op (st.op[i]).1 Lc := by rw [hsw.out]
    have HIN : Hid (Inv (swapS st (st.op[i]).1 Lc).2) := swap_inv HI.out _ _
    have HBK : Hid (swapS (swapS st (st.op[i]).1 Lc).2 (st.op[i]).1 (st.op[i]).2.2.1 = (0, st)) := swap_back HI.out hsw
    have HGV : Hid (∀ pq : Int, pq ∈ (st.op[i]).2.2.1 → pq ∉ Lc → (spAt (swapS st (st.op[i]).1 Lc).2.sp pq.toNat).1 = 0) := fun pq h1 h2 => swap_gives HI.out hsw h1 h2
    have HPT := Lib.hid (setPl_parts HI.out hio Lc)
    rw [← hopn] at HPT
    have hsl : (swapS st (st.op[i]).1 Lc).2.op.length = st.op.length := by rw [hopn, setPl_len]
    obtain ⟨sn, hsn⟩ : ∃ sn, sn = (swapS st (st.op[i]).1 Lc).2 := ⟨_, rfl⟩
    rw [← hsn] at H5 hspn hlan HIN HBK HGV HPT hsl
    have HSL := Lib.hid hsl
    have hln2 : sn.last ≤ 40 := by omega
    have hsp2 : sn.sp.length ≤ 20 := by omega
    have HSPN := Lib.hid hspn
    clear hsw hopn hsn hsl hlan hspn
    go_wp2_with fail
    refine (hs_list H5.out.hs (by omega)).mono ?_
    rintro e w6 ⟨vn, rfl, hb6, _, hr6⟩
    have H6 := Lib.hid (H5.out.next hb6)
    have HL6 := Lib.hid (HL5.out.below hb6)
    have RB6 := Lib.hid (RB5.out.below hb6)
    obtain ⟨E2, la2, lc2, rfl, hE2, hL2, hcap2⟩ := hr6.lst
    have HN6 := Lib.hid hL2
    have HE2 := Lib.hid hE2
    have hE2l : E2.length = m := by rw [HEL.out, ← HSL.out, ← hE2, List.length_map]
    rw [hE2l] at hcap2 ⊢
    have HE2L := Lib.hid hE2l
    clear hE2l hb6 hr6 H5 HL5 RB5 hL2 hE2
    go_wp2_with fail
    refine (hs_spaces H6.out.hs (by omega)).mono ?_
    rintro e w7 ⟨vs, rfl, hb7, _, hr7⟩
    have H7 := Lib.hid (H6.out.next hb7)
    have HL7 := Lib.hid (HL6.out.below hb7)
    have HN7 := Lib.hid (HN6.out.below hb7)
    have RB7 := Lib.hid (RB6.out.below hb7)
    obtain ⟨ls, lsc, rfl, hrs⟩ := hr7.recs
    have RS7 := Lib.hid hrs
    rw [HSPN.out] at RS7 ⊢
    clear hb7 hr7 H6 HL6 HN6 RB6 hrs
    have hi2 : i < E2.length := by rw [HE2L.out]; exact hil
    have hx2 : E2[i].1 = ((st.op[i]).1, (st.op[i]).2.1, Lc, (st.op[i]).2.2.2) := map_at HE2.out hi2 HPT.out.2.2
    obtain ⟨b2, o2, rfl, d0, d1, d2, d3, d4, d5⟩ := own_at HN7.out.recs i (by omega) hi2
    obtain ⟨bp, ep, _, hr⟩ := HN7.out.2 _ (List.getElem_mem hi2)
    have hIp := hr.ints
    rw [← ep] at hIp
    rw [hx2] at d0 d1 d3 d4 d5 hIp
    dsimp only at d0 d1 d3 d4 d5 hIp
    generalize E2[i].2.1 = xa2 at *
    generalize E2[i].2.2 = xc2 at *
    have HCW : Hid (Below w.heap.size w w7) := HB1.out.trans (H7.out.below.mono HB1.out.size)
    have HNI := Lib.hid (ints_any xa2 rb Lc.length xc2 Lc.length cb Lc Lc w7 hIp (HCI.out.below HCW.out) (by omega) (by omega))
    have hdL : decide (Lc = Lc) = true := by simp
    have HX2 := Lib.hid hx2
    clear ep hr hIp hx2
    go_wp2_with fail
    refine HNI.out.mono ?_
    rintro e w8 ⟨rfl, hq⟩
    have hb8 := hq.below
    have H8 := Lib.hid (H7.out.next hb8)
    have HL8 := Lib.hid (HL7.out.below hb8)
    have HN8 := Lib.hid (HN7.out.below hb8)
    have RB8 := Lib.hid (RB7.out.below hb8)
    have RS8 := Lib.hid (RS7.out.below hb8)
    have d0 := Below.cell_of hb8 d0
    have d1 := Below.cell_of hb8 d1
    have d2 := Below.cell_of hb8 d2
    have d3 := Below.cell_of hb8 d3
    have d4 := Below.cell_of hb8 d4
    have d5 := Below.cell_of hb8 d5
    obtain ⟨c0, c3, _⟩ := HCE.out w8 HL8.out
    clear hq hb8 HNI HL7 HN7 RB7 RS7 H7 HCW hdL
    have HPRE : Hid (E.map (·.1) = st.op ∧ E2.map (·.1) = sn.op ∧ E.length = m ∧ E2.length = m) := ⟨HE.out, HE2.out, HMM.out, HE2L.out⟩
    have HXI : Hid (st.op[i]? = some (st.op[i])) := List.getElem?_eq_getElem hio
    have HOI : Hid (E[i]'hiE = ((E[i]'hiE).1, xa, xc) ∧ (E[i]'hiE).1 = st.op[i]) := ⟨by rw [← HXA.out, ← HXC.out], HX1.out⟩
    have HPLL : Hid (∀ z ∈ st.op, z.2.2.1.length ≤ 4000) := inv_pl HI.out
    have HPLN : Hid (∀ z ∈ sn.op, z.2.2.1.length ≤ 4000) := inv_pl HIN.out
    have HCAP : Hid (m ≤ lc ∧ m ≤ lc2) := ⟨hcap, hcap2⟩
    clear HXA HXC HX1 HX2 HE HE2 HEL HSL HMM HSW HIN hcap hcap2 hez hez2 HER
    have HCI2 := Lib.hid HCI.out
    clear HCI
    have HEI : Hid (E[i]? = some (E[i]'hiE)) := List.getElem?_eq_getElem hiE
    generalize E[i]'hiE = ei at *
    clear hiE hi2
    generalize st.op[i] = x at *
    clear hio
    obtain ⟨id, nm', L, til, cls⟩ := x
    dsimp only at d0 d1 d3 d4 d5 c0 c3 HCE HIW HBK HGV HPT hchl
    go_upto_region 17 with fail
    have HBA : Hid (Below w8.heap.size w8 (w8.alloc (.cells #[.int .i64 id, .string (bs nm'), .int .i64 0, .slice xa2 Lc.length xc2, .int .i64 til, .int .i64 cls] 33))) := Joins.below_alloc1 _ _
    have HBK0 : Hid ((w8.alloc (.cells #[.int .i64 id, .string (bs nm'), .int .i64 0, .slice xa2 Lc.length xc2, .int .i64 til, .int .i64 cls] 33)).heap[w8.heap.size]? = some (.cells #[.int .i64 id, .string (bs nm'), .int .i64 0, .slice xa2 Lc.length xc2, .int .i64 til, .int .i64 cls] 33 (0, 0))) := World.alloc_heap_new _ _
    generalize w8.alloc (.cells #[.int .i64 id, .string (bs nm'), .int .i64 0, .slice xa2 Lc.length xc2, .int .i64 til, .int .i64 cls] 33) = w9 at *
    have c0' := Below.cell_of HBA.out c0
    have c3' := Below.cell_of HBA.out c3
    have z3 := cell_of_row (j := 3) _ _ _ _ _ HBK0.out
    have f3 : w9.frozen? ⟨w8.heap.size, 3, none⟩ = false := by simp only [World.frozen?, HBK0.out]; simp
    clear c0 c3 d0 d1 d2 d3 d4 d5
    go_upto_region 18 with fail
    have HBB : Hid (Below w8.heap.size w8 (w9.setCell ⟨w8.heap.size, 3, none⟩ (.slice xa L.length xc))) := HBA.out.grown (grown_setCell w9 w8.heap.size 3 _) HBA.out.size (fun k hk => by cases hk; exact Nat.le_refl _)
    have HBX : Hid ((w9.setCell ⟨w8.heap.size, 3, none⟩ (.slice xa L.length xc)).heap[w8.heap.size]? = some (.cells #[.int .i64 id, .string (bs nm'), .int .i64 0, .slice xa L.length xc, .int .i64 til, .int .i64 cls] 33 (0, 0))) := by
      show _ = _
      simp [World.setCell, Array.getElem?_modify, HBK0.out]
    generalize w9.setCell ⟨w8.heap.size, 3, none⟩ (.slice xa L.length xc) = wA at *
    obtain ⟨bx, hbx⟩ : ∃ bx, w8.heap.size = bx := ⟨_, rfl⟩
    rw [hbx] at HBX ⊢
    have HKX : Hid (∀ wx, Below wA.heap.size wA wx → wx.cell? ⟨bx, 0, none⟩ = some (.int .i64 id) ∧ wx.cell? ⟨bx, 1, none⟩ = some (.string (bs nm')) ∧ wx.cell? ⟨bx, 2, none⟩ = some (.int .i64 0) ∧ wx.cell? ⟨bx, 3, none⟩ = some (.slice xa L.length xc) ∧ wx.cell? ⟨bx, 4, none⟩ = some (.int .i64 til) ∧ wx.cell? ⟨bx, 5, none⟩ = some (.int .i64 cls)) := fun wx hb => by
      have := (hb.block bx (lt_of_block HBX.out)).trans HBX.out
      exact ⟨cell_of_row (j := 0) _ _ _ _ _ this, cell_of_row (j := 1) _ _ _ _ _ this, cell_of_row (j := 2) _ _ _ _ _ this, cell_of_row (j := 3) _ _ _ _ _ this, cell_of_row (j := 4) _ _ _ _ _ this, cell_of_row (j := 5) _ _ _ _ _ this⟩
    have HA := Lib.hid (H8.out.next HBB.out)
    have HLA := Lib.hid (HL8.out.below HBB.out)
    have HNA := Lib.hid (HN8.out.below HBB.out)
    have RBA := Lib.hid (RB8.out.below HBB.out)
    have RSA := Lib.hid (RS8.out.below HBB.out)
    clear hbx HBA HBK0 HBB HBX c0' c3' z3 f3 H8 HL8 HN8 RB8 RS8
    have hle : m ≤ lc := HCAP.out.1
    have hle2 : m ≤ lc2 := HCAP.out.2
    refine wp_region_held_drew (S := fun wx => wx.cell? ⟨bx, 0, none⟩ = some (.int .i64 id) ∧ wx.cell? ⟨bx, 1, none⟩ = some (.string (bs nm')) ∧ wx.cell? ⟨bx, 2, none⟩ = some (.int .i64 0) ∧ wx.cell? ⟨bx, 3, none⟩ = some (.slice xa L.length xc) ∧ wx.cell? ⟨bx, 4, none⟩ = some (.int .i64 til) ∧ wx.cell? ⟨bx, 5, none⟩ = some (.int .i64 cls)) (by kernel_rfl) (HKX.out wA (Below.refl _ _)) (fun hHeld => ?_)
    refine take_at (i := 0) (v := ?_) 84 rfl rfl (by kernel_rfl) (by kernel_rfl) (by kernel_rfl) (fun _ _ _ h => h) (Or.inl ⟨by rfl, ?_⟩) (by assumption) ?_
    rotate_left
    · intro w hSw; go_simp <;> with_reducible rfl
    try simp only [Act.put, List.setIfInBounds_toArray, List.set_cons_zero, List.set_cons_succ]
    refine take_at (i := 2) (v := ?_) 86 rfl rfl (by kernel_rfl) (by kernel_rfl) (by kernel_rfl) (fun _ _ _ h => h) (Or.inl ⟨by rfl, ?_⟩) (by assumption) ?_
    rotate_left
    · intro w hSw; go_simp <;> with_reducible rfl
    try simp only [Act.put, List.setIfInBounds_toArray, List.set_cons_zero, List.set_cons_succ]
    refine take_at (i := 3) (v := ?_) 87 rfl rfl (by kernel_rfl) (by kernel_rfl) (by kernel_rfl) (fun _ _ _ h => h) (Or.inl ⟨by rfl, ?_⟩) (by assumption) ?_
    rotate_left
    · intro w hSw; go_simp <;> with_reducible rfl
    try simp only [Act.put, List.setIfInBounds_toArray, List.set_cons_zero, List.set_cons_succ]
    refine take_at (i := 4) (v := ?_) 88 rfl rfl (by kernel_rfl) (by kernel_rfl) (by kernel_rfl) (fun _ _ _ h => h) (Or.inl ⟨by rfl, ?_⟩) (by assumption) ?_
    rotate_left
    · intro w hSw; go_simp <;> with_reducible rfl
    try simp only [Act.put, List.setIfInBounds_toArray, List.set_cons_zero, List.set_cons_succ]
    refine take_at (i := 5) (v := .int .i64 ((i + 1 : Nat) : Int)) 89 rfl rfl (by kernel_rfl) (by kernel_rfl) (by kernel_rfl) (fun _ _ _ h => h) (Or.inl ⟨by rfl, ?_⟩) (by assumption) ?_
    · intro w hSw; go_simp; exact wrap_next hil hm40
    try simp only [Act.put, List.setIfInBounds_toArray, List.set_cons_zero, List.set_cons_succ]
    refine take_at (i := 6) (v := .slice (some ⟨b, o + i * 6, none⟩) 1 (lc - i)) 90 rfl rfl (by kernel_rfl) (by kernel_rfl) (by kernel_rfl) (fun _ _ _ h => h) (Or.inl ⟨by rfl, ?_⟩) (by assumption) ?_
    · intro w hSw
      go_simp
      rw [if_pos ⟨by omega, by omega⟩, if_neg (by omega)]
    try simp only [Act.put, List.setIfInBounds_toArray, List.set_cons_zero, List.set_cons_succ]
    refine wpAnyH_ready (rs := [1]) (by kernel_rfl) (by simp) ?_
    refine AllReadyH.cons rfl (fun K' hK => ?_) AllReadyH.nil
    go_simp
    have hbA : Below wA.heap.size wA (wA.alloc (.cells #[.int .i64 id, .string (bs nm'), .int .i64 0, .slice xa L.length xc, .int .i64 til, .int .i64 cls] 33)).drew := (Joins.below_alloc1 wA _).drew
    have HRN : Hid ((wA.alloc (.cells #[.int .i64 id, .string (bs nm'), .int .i64 0, .slice xa L.length xc, .int .i64 til, .int .i64 cls] 33)).drew.heap[wA.heap.size]? = some (.cells #[.int .i64 id, .string (bs nm'), .int .i64 0, .slice xa L.length xc, .int .i64 til, .int .i64 cls] 33 (0, 0))) := World.alloc_heap_new wA (.cells #[.int .i64 id, .string (bs nm'), .int .i64 0, .slice xa L.length xc, .int .i64 til, .int .i64 cls] 33)
    have HBN := Lib.hid hbA
    generalize (wA.alloc (.cells #[.int .i64 id, .string (bs nm'), .int .i64 0, .slice xa L.length xc, .int .i64 til, .int .i64 cls] 33)).drew = wB at *
    go_simp
    refine hK.out _ _ (HKX.out wB HBN.out) (fun hHeld => ?_)
    clear hK K'
    try simp only [Act.put, List.setIfInBounds_toArray, List.set_cons_zero, List.set_cons_succ]
    clear hbA
    have HRE : Hid (Recs OwnE wA (some ⟨b, o, none⟩) m E) := by have := HLA.out.recs; rw [HPRE.out.2.2.1] at this; exact this
    have HRE2 : Hid (Recs OwnE wA (some ⟨b2, o2, none⟩) m E2) := by have := HNA.out.recs; rw [HPRE.out.2.2.2] at this; exact this
    have HHB := Lib.hid (one_back HRN.out HOI.out.1 HOI.out.2)
    have HWB := Lib.hid (one_at HLA.out HEI.out)
    have HC1 : Hid (Calls Tryd.prog 16 #[.slice (some ⟨wA.heap.size, 0, none⟩) 1 1, .slice (some ⟨b, o + i * 6, none⟩) 1 (lc - i)] wB fun e w' => e = .returned (.bool true) ∧ Below wB.heap.size wB w') := by
      have hpl : ∀ z ∈ [ei], PlIn wB z := fun z hz => by
        rw [List.mem_singleton.mp hz]
        have hm : ei ∈ E := List.mem_of_getElem? HEI.out
        refine ((HLA.out.pl (fun y hy => HPLL.out y.1 (by rw [← HPRE.out.1]; exact List.mem_map_of_mem hy))) ei hm).below HBN.out
      refine (sameholds_any _ _ 1 _ 1 _ [ei] [ei] wB HHB.out (HWB.out.below HBN.out) hpl hpl (by omega) (by omega)).mono ?_
      rintro e w' ⟨rfl, hb⟩
      exact ⟨by simp, hb⟩
    refine wpAnyH_ready (rs := [7]) (by kernel_rfl) (by simp) ?_
    refine AllReadyH.cons rfl (fun K' hK => ?_) AllReadyH.nil
    go_simp
    refine HC1.out.mono ?_
    rintro e wC ⟨rfl, hbC⟩
    have HBC : Hid (Below wA.heap.size wA wC) := HBN.out.trans (hbC.mono HBN.out.size)
    clear hbC HC1 HHB HWB HRN
    go_simp
    refine hK.out _ _ (HKX.out wC HBC.out) (fun hHeld => ?_)
    clear hK K'
    try simp only [Act.put, List.setIfInBounds_toArray, List.set_cons_zero, List.set_cons_succ]
    refine take_at (i := 8) (v := ?_) 92 rfl rfl (by kernel_rfl) (by kernel_rfl) (by kernel_rfl) (fun _ _ _ h => h) (Or.inl ⟨by rfl, ?_⟩) (by assumption) ?_
    rotate_left
    · intro w hSw; go_simp <;> with_reducible rfl
    try simp only [Act.put, List.setIfInBounds_toArray, List.set_cons_zero, List.set_cons_succ]
    refine take_at (i := 9) (v := ?_) 93 rfl rfl (by kernel_rfl) (by kernel_rfl) (by kernel_rfl) (fun _ _ _ h => h) (Or.inl ⟨by rfl, ?_⟩) (by assumption) ?_
    rotate_left
    · intro w hSw; go_simp <;> with_reducible rfl
    try simp only [Act.put, List.setIfInBounds_toArray, List.set_cons_zero, List.set_cons_succ]
    refine take_at (i := 10) (v := ?_) 94 rfl rfl (by kernel_rfl) (by kernel_rfl) (by kernel_rfl) (fun _ _ _ h => h) (Or.inl ⟨by rfl, ?_⟩) (by assumption) ?_
    rotate_left
    · intro w hSw; go_simp <;> with_reducible rfl
    try simp only [Act.put, List.setIfInBounds_toArray, List.set_cons_zero, List.set_cons_succ]
    refine take_at (i := 11) (v := ?_) 95 rfl rfl (by kernel_rfl) (by kernel_rfl) (by kernel_rfl) (fun _ _ _ h => h) (Or.inl ⟨by rfl, ?_⟩) (by assumption) ?_
    rotate_left
    · intro w hSw; go_simp <;> with_reducible rfl
    try simp only [Act.put, List.setIfInBounds_toArray, List.set_cons_zero, List.set_cons_succ]
    obtain ⟨A2, hA2⟩ : ∃ A2 : Option Addr, A2 = (if lc2 = i + 1 then some ⟨b2, o2, none⟩ else some ⟨b2, o2 + (i + 1) * 6, none⟩) := ⟨_, rfl⟩
    obtain ⟨A1, hA1⟩ : ∃ A1 : Option Addr, A1 = (if lc = i + 1 then some ⟨b, o, none⟩ else some ⟨b, o + (i + 1) * 6, none⟩) := ⟨_, rfl⟩
    have HA2 := Lib.hid hA2
    have HA1 := Lib.hid hA1
    clear hA1 hA2
    refine take_at (i := 12) (v := .slice (some ⟨b2, o2, none⟩) i lc2) 96 rfl rfl (by kernel_rfl) (by kernel_rfl) (by kernel_rfl) (fun _ _ _ h => h) (Or.inl ⟨by rfl, ?_⟩) (by assumption) ?_
    · intro w hSw
      go_simp
      intro hh
      omega
    try simp only [Act.put, List.setIfInBounds_toArray, List.set_cons_zero, List.set_cons_succ]
    refine take_at (i := 13) (v := ?_) 97 rfl rfl (by kernel_rfl) (by kernel_rfl) (by kernel_rfl) (fun _ _ _ h => h) (Or.inl ⟨by rfl, ?_⟩) (by assumption) ?_
    rotate_left
    · intro w hSw; go_simp <;> with_reducible rfl
    try simp only [Act.put, List.setIfInBounds_toArray, List.set_cons_zero, List.set_cons_succ]
    refine take_at (i := 14) (v := ?_) 98 rfl rfl (by kernel_rfl) (by kernel_rfl) (by kernel_rfl) (fun _ _ _ h => h) (Or.inl ⟨by rfl, ?_⟩) (by assumption) ?_
    rotate_left
    · intro w hSw; go_simp <;> with_reducible rfl
    try simp only [Act.put, List.setIfInBounds_toArray, List.set_cons_zero, List.set_cons_succ]
    refine take_at (i := 15) (v := .slice (some ⟨b, o, none⟩) i lc) 99 rfl rfl (by kernel_rfl) (by kernel_rfl) (by kernel_rfl) (fun _ _ _ h => h) (Or.inl ⟨by rfl, ?_⟩) (by assumption) ?_
    · intro w hSw
      go_simp
      intro hh
      omega
    try simp only [Act.put, List.setIfInBounds_toArray, List.set_cons_zero, List.set_cons_succ]
    have HCK : Hid (Calls Tryd.prog 16 #[.slice (some ⟨b2, o2, none⟩) i lc2, .slice (some ⟨b, o, none⟩) i lc] wC fun e w' => e = .returned (.bool true) ∧ Below wC.heap.size wC w') := by
      have hp2 : ∀ z ∈ E, PlIn wC z := fun z hz => (HLA.out.pl (fun y hy => HPLL.out y.1 (by rw [← HPRE.out.1]; exact List.mem_map_of_mem hy)) z hz).below HBC.out
      have hp1 : ∀ z ∈ E2, PlIn wC z := fun z hz => (HNA.out.pl (fun y hy => HPLN.out y.1 (by rw [← HPRE.out.2.1]; exact List.mem_map_of_mem hy)) z hz).below HBC.out
      refine (sameholds_any _ _ i _ i _ (E2.take i) (E.take i) wC (recs_take ((HRE2.out).below HBC.out) i (by omega)) (recs_take ((HRE.out).below HBC.out) i (by omega)) (fun z hz => hp1 z (List.mem_of_mem_take hz)) (fun z hz => hp2 z (List.mem_of_mem_take hz)) (by omega) (by omega)).mono ?_
      rintro e w' ⟨rfl, hb⟩
      refine ⟨?_, hb⟩
      rw [map_take HPRE.out.1, map_take HPRE.out.2.1, HPT.out.1]
      simp
    refine wpAnyH_ready (rs := [16]) (by kernel_rfl) (by simp) ?_
    refine AllReadyH.cons rfl (fun K' hK => ?_) AllReadyH.nil
    go_simp
    refine HCK.out.mono ?_
    rintro e wD ⟨rfl, hbb⟩
    have HBD : Hid (Below wA.heap.size wA wD) := HBC.out.trans (hbb.mono HBC.out.size)
    clear hbb HCK
    go_simp
    refine hK.out _ _ (HKX.out wD HBD.out) (fun hHeld => ?_)
    clear hK K'
    try simp only [Act.put, List.setIfInBounds_toArray, List.set_cons_zero, List.set_cons_succ]
    refine take_at (i := 17) (v := ?_) 101 rfl rfl (by kernel_rfl) (by kernel_rfl) (by kernel_rfl) (fun _ _ _ h => h) (Or.inl ⟨by rfl, ?_⟩) (by assumption) ?_
    rotate_left
    · intro w hSw; go_simp <;> with_reducible rfl
    try simp only [Act.put, List.setIfInBounds_toArray, List.set_cons_zero, List.set_cons_succ]
    refine take_at (i := 18) (v := ?_) 102 rfl rfl (by kernel_rfl) (by kernel_rfl) (by kernel_rfl) (fun _ _ _ h => h) (Or.inl ⟨by rfl, ?_⟩) (by assumption) ?_
    rotate_left
    · intro w hSw; go_simp <;> with_reducible rfl
    try simp only [Act.put, List.setIfInBounds_toArray, List.set_cons_zero, List.set_cons_succ]
    refine take_at (i := 19) (v := ?_) 103 rfl rfl (by kernel_rfl) (by kernel_rfl) (by kernel_rfl) (fun _ _ _ h => h) (Or.inl ⟨by rfl, ?_⟩) (by assumption) ?_
    rotate_left
    · intro w hSw; go_simp <;> with_reducible rfl
    try simp only [Act.put, List.setIfInBounds_toArray, List.set_cons_zero, List.set_cons_succ]
    refine take_at (i := 20) (v := ?_) 104 rfl rfl (by kernel_rfl) (by kernel_rfl) (by kernel_rfl) (fun _ _ _ h => h) (Or.inl ⟨by rfl, ?_⟩) (by assumption) ?_
    rotate_left
    · intro w hSw; go_simp <;> with_reducible rfl
    try simp only [Act.put, List.setIfInBounds_toArray, List.set_cons_zero, List.set_cons_succ]
    refine take_at (i := 21) (v := ?_) 105 rfl rfl (by kernel_rfl) (by kernel_rfl) (by kernel_rfl) (fun _ _ _ h => h) (Or.inl ⟨by rfl, ?_⟩) (by assumption) ?_
    rotate_left
    · intro w hSw; go_simp <;> with_reducible rfl
    try simp only [Act.put, List.setIfInBounds_toArray, List.set_cons_zero, List.set_cons_succ]
    refine take_at (i := 22) (v := .int .i64 ((i + 1 : Nat) : Int)) 106 rfl rfl (by kernel_rfl) (by kernel_rfl) (by kernel_rfl) (fun _ _ _ h => h) (Or.inl ⟨by rfl, ?_⟩) (by assumption) ?_
    · intro w hSw
      go_simp
      exact wrap_next hil hm40
    try simp only [Act.put, List.setIfInBounds_toArray, List.set_cons_zero, List.set_cons_succ]
    refine take_at (i := 23) (v := .slice A2 (m - (i + 1)) (lc2 - (i + 1))) 107 rfl rfl (by kernel_rfl) (by kernel_rfl) (by kernel_rfl) (fun _ _ _ h => h) (Or.inl ⟨by rfl, ?_⟩) (by assumption) ?_
    · intro w hSw
      rw [HA2.out]
      go_simp
      intro hh
      exact absurd (hh (by omega)) (by omega)
    try simp only [Act.put, List.setIfInBounds_toArray, List.set_cons_zero, List.set_cons_succ]
    refine take_at (i := 24) (v := ?_) 108 rfl rfl (by kernel_rfl) (by kernel_rfl) (by kernel_rfl) (fun _ _ _ h => h) (Or.inl ⟨by rfl, ?_⟩) (by assumption) ?_
    rotate_left
    · intro w hSw; go_simp <;> with_reducible rfl
    try simp only [Act.put, List.setIfInBounds_toArray, List.set_cons_zero, List.set_cons_succ]
    refine take_at (i := 25) (v := ?_) 109 rfl rfl (by kernel_rfl) (by kernel_rfl) (by kernel_rfl) (fun _ _ _ h => h) (Or.inl ⟨by rfl, ?_⟩) (by assumption) ?_
    rotate_left
    · intro w hSw; go_simp <;> with_reducible rfl
    try simp only [Act.put, List.setIfInBounds_toArray, List.set_cons_zero, List.set_cons_succ]
    refine take_at (i := 26) (v := .int .i64 ((i + 1 : Nat) : Int)) 110 rfl rfl (by kernel_rfl) (by kernel_rfl) (by kernel_rfl) (fun _ _ _ h => h) (Or.inl ⟨by rfl, ?_⟩) (by assumption) ?_
    · intro w hSw
      go_simp
      exact wrap_next hil hm40
    try simp only [Act.put, List.setIfInBounds_toArray, List.set_cons_zero, List.set_cons_succ]
    refine take_at (i := 27) (v := .slice A1 (m - (i + 1)) (lc - (i + 1))) 111 rfl rfl (by kernel_rfl) (by kernel_rfl) (by kernel_rfl) (fun _ _ _ h => h) (Or.inl ⟨by rfl, ?_⟩) (by assumption) ?_
    · intro w hSw
      rw [HA1.out]
      go_simp
      intro hh
      exact absurd (hh (by omega)) (by omega)
    try simp only [Act.put, List.setIfInBounds_toArray, List.set_cons_zero, List.set_cons_succ]
    have HCK : Hid (Calls Tryd.prog 16 #[.slice A2 (m - (i + 1)) (lc2 - (i + 1)), .slice A1 (m - (i + 1)) (lc - (i + 1))] wD fun e w' => e = .returned (.bool true) ∧ Below wD.heap.size wD w') := by
      have hp2 : ∀ z ∈ E, PlIn wD z := fun z hz => (HLA.out.pl (fun y hy => HPLL.out y.1 (by rw [← HPRE.out.1]; exact List.mem_map_of_mem hy)) z hz).below HBD.out
      have hp1 : ∀ z ∈ E2, PlIn wD z := fun z hz => (HNA.out.pl (fun y hy => HPLN.out y.1 (by rw [← HPRE.out.2.1]; exact List.mem_map_of_mem hy)) z hz).below HBD.out
      refine (sameholds_any _ _ (m - (i + 1)) _ (m - (i + 1)) _ (E2.drop (i + 1)) (E.drop (i + 1)) wD (by rw [HA2.out]; exact recs_rest ((HRE2.out).below HBD.out) (i + 1) (by omega) hle2) (by rw [HA1.out]; exact recs_rest ((HRE.out).below HBD.out) (i + 1) (by omega) hle) (fun z hz => hp1 z (List.mem_of_mem_drop hz)) (fun z hz => hp2 z (List.mem_of_mem_drop hz)) (by omega) (by omega)).mono ?_
      rintro e w' ⟨rfl, hb⟩
      refine ⟨?_, hb⟩
      rw [map_drop HPRE.out.1, map_drop HPRE.out.2.1, HPT.out.2.1]
      simp
    refine wpAnyH_ready (rs := [28]) (by kernel_rfl) (by simp) ?_
    refine AllReadyH.cons rfl (fun K' hK => ?_) AllReadyH.nil
    go_simp
    refine HCK.out.mono ?_
    rintro e wE ⟨rfl, hbb⟩
    have HBE : Hid (Below wA.heap.size wA wE) := HBD.out.trans (hbb.mono HBD.out.size)
    clear hbb HCK
    go_simp
    refine hK.out _ _ (HKX.out wE HBE.out) (fun hHeld => ?_)
    clear hK K'
    try simp only [Act.put, List.setIfInBounds_toArray, List.set_cons_zero, List.set_cons_succ]
    refine take_at (i := 29) (v := ?_) 113 rfl rfl (by kernel_rfl) (by kernel_rfl) (by kernel_rfl) (fun _ _ _ h => h) (Or.inl ⟨by rfl, ?_⟩) (by assumption) ?_
    rotate_left
    · intro w hSw; go_simp <;> with_reducible rfl
    try simp only [Act.put, List.setIfInBounds_toArray, List.set_cons_zero, List.set_cons_succ]
    refine take_at (i := 30) (v := ?_) 114 rfl rfl (by kernel_rfl) (by kernel_rfl) (by kernel_rfl) (fun _ _ _ h => h) (Or.inl ⟨by rfl, ?_⟩) (by assumption) ?_
    rotate_left
    · intro w hSw; go_simp <;> with_reducible rfl
    try simp only [Act.put, List.setIfInBounds_toArray, List.set_cons_zero, List.set_cons_succ]
    refine wpAnyH_done (by kernel_rfl) ?_ _
    clear hHeld HKX HRE HRE2 HNA HPLN
    have HLE := Lib.hid (HLA.out.below HBE.out)
    have HE9 := Lib.hid (HA.out.next HBE.out)
    have RSE := Lib.hid (RSA.out.below HBE.out)
    have RBE := Lib.hid (RBA.out.below HBE.out)
    have HMEM : Hid ((id, nm', L, til, cls) ∈ st.op) := List.mem_of_getElem? HXI.out
    have HRP : Hid (∀ pq ∈ L, 0 ≤ pq ∧ pq < st.sp.length) := HI.out.rngP HMEM.out
    have HCBE : Hid (Below w.heap.size w wE) := HB1.out.trans (HE9.out.below.mono HB1.out.size)
    have HIC : Hid (Ints wE rb Lc.length Lc) := HCI2.out.below HCBE.out
    clear HLA HA RSA RBA HBC HBD HBE HBN HCBE HCI2
    have hcw := HCE.out wE HLE.out
    obtain ⟨c0, c3, hiw⟩ := hcw
    have HIW2 := Lib.hid hiw
    clear hiw
    go_wp2_with fail
    go_loopw [17, 18] (fun v17 v18 wr => ∃ k : Nat, v17 = .int .i64 k ∧ k ≤ L.length ∧ wE = wr) (fun v17 _ _ => L.length - (intOf v17).toNat)
    case atStart => exact ⟨0, rfl, Nat.zero_le _, rfl⟩
    case round =>
      obtain ⟨k, rfl, hk, rfl⟩ := hrel
      by_cases hkl : k < L.length
      · obtain ⟨b5, o5, e5, y0⟩ := HIW2.out.2 k hkl
        subst e5
        have hm5 := ix_mem hkl
        have hr5 := HRP.out _ hm5
        have hg5 := HGV.out _ hm5
        obtain ⟨pq, hpq⟩ : ∃ pq : Nat, ix L k = pq := ⟨(ix L k).toNat, by omega⟩
        rw [hpq] at y0 hr5 hg5
        rw [Int.toNat_natCast] at hg5
        have hpl : pq < st.sp.length := by omega
        obtain ⟨b6, o6, e6, z0, _⟩ := sp_at2 RSE.out pq hpl
        subst e6
        have HG5 := Lib.hid hg5
        have HIN := Lib.hid (in_any rb Lc.length cb Lc (pq : Int) wE HIC.out (by omega))
        clear hm5 hr5 hg5 hpq
        go_wp2_with fail
        refine HIN.out.mono ?_
        rintro e w' ⟨rfl, rfl⟩
        by_cases hin : (pq : Int) ∈ Lc
        · have hdin : decide ((pq : Int) ∈ Lc) = true := by simpa using hin
          clear hin HG5
          go_wp2_with fail
          exact ⟨⟨k + 1, by go_num, hkl, trivial⟩, by simp [intOf]; omega⟩
        · have hdin : decide ((pq : Int) ∈ Lc) = false := by simpa using hin
          rw [HG5.out hin] at z0
          clear hin HG5
          go_wp2_with fail
          exact ⟨⟨k + 1, by go_num, hkl, trivial⟩, by simp [intOf]; omega⟩
      · have hk' : k = L.length := by omega
        subst hk'
        have HD1 := Lib.hid (HE9.out.next (Below.refl _ _).drew)
        have HL1 := Lib.hid (HLE.out.below (Below.refl _ _).drew)
        have RB1 := Lib.hid (RBE.out.below (Below.refl _ _).drew)
        have HSWP := Lib.hid (hs_swap (w := wE.drew) HD1.out.hs (by omega) (by omega) id HIW.out L xa L.length xc (by omega) (fun wx hu => (HCE.out wx (HL1.out.keep HD1.out.hs hu)).2.2))
        rw [HBK.out] at HSWP
        dsimp only at HSWP
        have HKW : Hid (∀ wx, HLst wx (some ⟨b, o, none⟩) E → wx.cell? ⟨b, o + i * 6, none⟩ = some (.int .i64 id) ∧ wx.cell? ⟨b, o + i * 6 + 3, none⟩ = some (.slice xa L.length xc)) := fun wx hl => ⟨(HCE.out wx hl).1, (HCE.out wx hl).2.1⟩
        clear HBK HCE HIW HGV HIW2 RSE HIC hkl hk
        go_upto_region 26 with fail
        refine wp_region_held_drew (S := fun wx => wx.cell? ⟨b, o + i * 6, none⟩ = some (.int .i64 id) ∧ wx.cell? ⟨b, o + i * 6 + 3, none⟩ = some (.slice xa L.length xc)) (by kernel_rfl) ⟨c0, c3⟩ (fun hHeld => ?_)
        clear c0 c3
        refine take_at (i := 0) (v := ?_) 155 rfl rfl (by kernel_rfl) (by kernel_rfl) (by kernel_rfl) (fun _ _ _ h => h) (Or.inl ⟨by rfl, ?_⟩) (by assumption) ?_
        rotate_left
        · intro w hSw; go_simp <;> with_reducible rfl
        try simp only [Act.put, List.setIfInBounds_toArray, List.set_cons_zero, List.set_cons_succ]
        refine take_at (i := 1) (v := ?_) 156 rfl rfl (by kernel_rfl) (by kernel_rfl) (by kernel_rfl) (fun _ _ _ h => h) (Or.inl ⟨by rfl, ?_⟩) (by assumption) ?_
        rotate_left
        · intro w hSw; go_simp <;> with_reducible rfl
        try simp only [Act.put, List.setIfInBounds_toArray, List.set_cons_zero, List.set_cons_succ]
        refine take_at (i := 2) (v := ?_) 157 rfl rfl (by kernel_rfl) (by kernel_rfl) (by kernel_rfl) (fun _ _ _ h => h) (Or.inl ⟨by rfl, ?_⟩) (by assumption) ?_
        rotate_left
        · intro w hSw; go_simp <;> with_reducible rfl
        try simp only [Act.put, List.setIfInBounds_toArray, List.set_cons_zero, List.set_cons_succ]
        refine take_at (i := 3) (v := ?_) 158 rfl rfl (by kernel_rfl) (by kernel_rfl) (by kernel_rfl) (fun _ _ _ h => h) (Or.inl ⟨by rfl, ?_⟩) (by assumption) ?_
        rotate_left
        · intro w hSw; go_simp <;> with_reducible rfl
        try simp only [Act.put, List.setIfInBounds_toArray, List.set_cons_zero, List.set_cons_succ]
        refine take_at (i := 4) (v := ?_) 159 rfl rfl (by kernel_rfl) (by kernel_rfl) (by kernel_rfl) (fun _ _ _ h => h) (Or.inl ⟨by rfl, ?_⟩) (by assumption) ?_
        rotate_left
        · intro w hSw; go_simp <;> with_reducible rfl
        try simp only [Act.put, List.setIfInBounds_toArray, List.set_cons_zero, List.set_cons_succ]
        refine take_at (i := 5) (v := ?_) 160 rfl rfl (by kernel_rfl) (by kernel_rfl) (by kernel_rfl) (fun _ _ _ h => h) (Or.inl ⟨by rfl, ?_⟩) (by assumption) ?_
        rotate_left
        · intro w hSw; go_simp <;> with_reducible rfl
        try simp only [Act.put, List.setIfInBounds_toArray, List.set_cons_zero, List.set_cons_succ]
        refine take_at (i := 6) (v := ?_) 161 rfl rfl (by kernel_rfl) (by kernel_rfl) (by kernel_rfl) (fun _ _ _ h => h) (Or.inl ⟨by rfl, ?_⟩) (by assumption) ?_
        rotate_left
        · intro w hSw; go_simp <;> with_reducible rfl
        try simp only [Act.put, List.setIfInBounds_toArray, List.set_cons_zero, List.set_cons_succ]
        refine take_at (i := 7) (v := ?_) 162 rfl rfl (by kernel_rfl) (by kernel_rfl) (by kernel_rfl) (fun _ _ _ h => h) (Or.inl ⟨by rfl, ?_⟩) (by assumption) ?_
        rotate_left
        · intro w hSw; go_simp <;> with_reducible rfl
        try simp only [Act.put, List.setIfInBounds_toArray, List.set_cons_zero, List.set_cons_succ]
        refine take_at (i := 8) (v := ?_) 163 rfl rfl (by kernel_rfl) (by kernel_rfl) (by kernel_rfl) (fun _ _ _ h => h) (Or.inl ⟨by rfl, ?_⟩) (by assumption) ?_
        rotate_left
        · intro w hSw; go_simp <;> with_reducible rfl
        try simp only [Act.put, List.setIfInBounds_toArray, List.set_cons_zero, List.set_cons_succ]
        refine take_at (i := 9) (v := ?_) 164 rfl rfl (by kernel_rfl) (by kernel_rfl) (by kernel_rfl) (fun _ _ _ h => h) (Or.inl ⟨by rfl, ?_⟩) (by assumption) ?_
        rotate_left
        · intro w hSw; go_simp <;> with_reducible rfl
        try simp only [Act.put, List.setIfInBounds_toArray, List.set_cons_zero, List.set_cons_succ]
        refine take_at (i := 10) (v := ?_) 165 rfl rfl (by kernel_rfl) (by kernel_rfl) (by kernel_rfl) (fun _ _ _ h => h) (Or.inl ⟨by rfl, ?_⟩) (by assumption) ?_
        rotate_left
        · intro w hSw; go_simp <;> with_reducible rfl
        try simp only [Act.put, List.setIfInBounds_toArray, List.set_cons_zero, List.set_cons_succ]
        refine take_at (i := 11) (v := ?_) 166 rfl rfl (by kernel_rfl) (by kernel_rfl) (by kernel_rfl) (fun _ _ _ h => h) (Or.inl ⟨by rfl, ?_⟩) (by assumption) ?_
        rotate_left
        · intro w hSw; go_simp <;> with_reducible rfl
        try simp only [Act.put, List.setIfInBounds_toArray, List.set_cons_zero, List.set_cons_succ]
        refine take_at (i := 12) (v := ?_) 167 rfl rfl (by kernel_rfl) (by kernel_rfl) (by kernel_rfl) (fun _ _ _ h => h) (Or.inl ⟨by rfl, ?_⟩) (by assumption) ?_
        rotate_left
        · intro w hSw; go_simp <;> with_reducible rfl
        try simp only [Act.put, List.setIfInBounds_toArray, List.set_cons_zero, List.set_cons_succ]
        refine wpAnyH_ready (rs := [13]) (by kernel_rfl) (by simp) ?_
        refine AllReadyH.cons rfl (fun K' hK => ?_) AllReadyH.nil
        go_simp
        refine HSWP.out.mono ?_
        rintro e wF ⟨rfl, hh, hu⟩
        have HD2 := Lib.hid (HD1.out.step hh hu)
        have HL2 := Lib.hid (HL1.out.keep HD1.out.hs hu)
        have RB2 := Lib.hid (RB1.out.keep HSB.out hu)
        clear hh hu HSWP HD1 HL1 RB1 HE9 HLE RBE
        go_simp
        refine hK.out _ _ (HKW.out wF HL2.out) (fun hHeld => ?_)
        clear hK K'
        try simp only [Act.put, List.setIfInBounds_toArray, List.set_cons_zero, List.set_cons_succ]
        refine take_at (i := 14) (v := ?_) 169 rfl rfl (by kernel_rfl) (by kernel_rfl) (by kernel_rfl) (fun _ _ _ h => h) (Or.inl ⟨by rfl, ?_⟩) (by assumption) ?_
        rotate_left
        · intro w hSw; go_simp <;> with_reducible rfl
        try simp only [Act.put, List.setIfInBounds_toArray, List.set_cons_zero, List.set_cons_succ]
        refine take_at (i := 15) (v := ?_) 170 rfl rfl (by kernel_rfl) (by kernel_rfl) (by kernel_rfl) (fun _ _ _ h => h) (Or.inl ⟨by rfl, ?_⟩) (by assumption) ?_
        rotate_left
        · intro w hSw; go_simp <;> with_reducible rfl
        try simp only [Act.put, List.setIfInBounds_toArray, List.set_cons_zero, List.set_cons_succ]
        refine take_at (i := 16) (v := ?_) 171 rfl rfl (by kernel_rfl) (by kernel_rfl) (by kernel_rfl) (fun _ _ _ h => h) (Or.inl ⟨by rfl, ?_⟩) (by assumption) ?_
        rotate_left
        · intro w hSw; go_simp <;> with_reducible rfl
        try simp only [Act.put, List.setIfInBounds_toArray, List.set_cons_zero, List.set_cons_succ]
        refine take_at (i := 17) (v := ?_) 172 rfl rfl (by kernel_rfl) (by kernel_rfl) (by kernel_rfl) (fun _ _ _ h => h) (Or.inl ⟨by rfl, ?_⟩) (by assumption) ?_
        rotate_left
        · intro w hSw; go_simp <;> with_reducible rfl
        try simp only [Act.put, List.setIfInBounds_toArray, List.set_cons_zero, List.set_cons_succ]
        refine take_at (i := 19) (v := ?_) 174 rfl rfl (by kernel_rfl) (by kernel_rfl) (by kernel_rfl) (fun _ _ _ h => h) (Or.inl ⟨by rfl, ?_⟩) (by assumption) ?_
        rotate_left
        · intro w hSw; go_simp <;> with_reducible rfl
        try simp only [Act.put, List.setIfInBounds_toArray, List.set_cons_zero, List.set_cons_succ]
        have HLI := Lib.hid (hs_list HD2.out.hs (by omega))
        refine wpAnyH_ready (rs := [18]) (by kernel_rfl) (by simp) ?_
        refine AllReadyH.cons rfl (fun K' hK => ?_) AllReadyH.nil
        go_simp
        refine HLI.out.mono ?_
        rintro e wG ⟨vg, rfl, hbg, _, hrg⟩
        have HD3 := Lib.hid (HD2.out.next hbg)
        have HL3 := Lib.hid (HL2.out.below hbg)
        have RB3 := Lib.hid (RB2.out.below hbg)
        have HRG := Lib.hid hrg
        clear hbg hrg HLI HD2 HL2 RB2
        go_simp
        refine hK.out _ _ (HKW.out wG HL3.out) (fun hHeld => ?_)
        clear hK K'
        try simp only [Act.put, List.setIfInBounds_toArray, List.set_cons_zero, List.set_cons_succ]
        have HSH := Lib.hid (hs_sameho HRG.out (HL3.out.row HPRE.out.1 HPRE.out.2.2.1 hle) (by omega) (by omega) HPLL.out HPLL.out)
        refine wpAnyH_ready (rs := [20]) (by kernel_rfl) (by simp) ?_
        refine AllReadyH.cons rfl (fun K' hK => ?_) AllReadyH.nil
        go_simp
        refine HSH.out.mono ?_
        rintro e wH ⟨rfl, hbh⟩
        have HD4 := Lib.hid (HD3.out.next hbh)
        have HL4 := Lib.hid (HL3.out.below hbh)
        have RB4 := Lib.hid (RB3.out.below hbh)
        clear hbh HSH HRG HD3 HL3 RB3
        go_simp
        refine hK.out _ _ (HKW.out wH HL4.out) (fun hHeld => ?_)
        clear hK K'
        try simp only [Act.put, List.setIfInBounds_toArray, List.set_cons_zero, List.set_cons_succ]
        refine take_at (i := 21) (v := ?_) 176 rfl rfl (by kernel_rfl) (by kernel_rfl) (by kernel_rfl) (fun _ _ _ h => h) (Or.inl ⟨by rfl, ?_⟩) (by assumption) ?_
        rotate_left
        · intro w hSw; go_simp <;> with_reducible rfl
        try simp only [Act.put, List.setIfInBounds_toArray, List.set_cons_zero, List.set_cons_succ]
        refine take_at (i := 22) (v := ?_) 177 rfl rfl (by kernel_rfl) (by kernel_rfl) (by kernel_rfl) (fun _ _ _ h => h) (Or.inl ⟨by rfl, ?_⟩) (by assumption) ?_
        rotate_left
        · intro w hSw; go_simp <;> with_reducible rfl
        try simp only [Act.put, List.setIfInBounds_toArray, List.set_cons_zero, List.set_cons_succ]
        refine take_at (i := 23) (v := ?_) 178 rfl rfl (by kernel_rfl) (by kernel_rfl) (by kernel_rfl) (fun _ _ _ h => h) (Or.inl ⟨by rfl, ?_⟩) (by assumption) ?_
        rotate_left
        · intro w hSw; go_simp <;> with_reducible rfl
        try simp only [Act.put, List.setIfInBounds_toArray, List.set_cons_zero, List.set_cons_succ]
        refine take_at (i := 25) (v := ?_) 180 rfl rfl (by kernel_rfl) (by kernel_rfl) (by kernel_rfl) (fun _ _ _ h => h) (Or.inl ⟨by rfl, ?_⟩) (by assumption) ?_
        rotate_left
        · intro w hSw; go_simp <;> with_reducible rfl
        try simp only [Act.put, List.setIfInBounds_toArray, List.set_cons_zero, List.set_cons_succ]
        have HSP := Lib.hid (hs_spaces HD4.out.hs (by omega))
        refine wpAnyH_ready (rs := [24]) (by kernel_rfl) (by simp) ?_
        refine AllReadyH.cons rfl (fun K' hK => ?_) AllReadyH.nil
        go_simp
        refine HSP.out.mono ?_
        rintro e wI ⟨vi, rfl, hbi, _, hri⟩
        have HD5 := Lib.hid (HD4.out.next hbi)
        have HL5 := Lib.hid (HL4.out.below hbi)
        have RB5 := Lib.hid (RB4.out.below hbi)
        have HRI := Lib.hid hri
        clear hbi hri HSP HD4 HL4 RB4
        go_simp
        refine hK.out _ _ (HKW.out wI HL5.out) (fun hHeld => ?_)
        clear hK K'
        try simp only [Act.put, List.setIfInBounds_toArray, List.set_cons_zero, List.set_cons_succ]
        have HSS := Lib.hid (hs_samesp HRI.out RB5.out (by omega) (by omega))
        refine wpAnyH_ready (rs := [26]) (by kernel_rfl) (by simp) ?_
        refine AllReadyH.cons rfl (fun K' hK => ?_) AllReadyH.nil
        go_simp
        refine HSS.out.mono ?_
        rintro e wJ ⟨rfl, hbj⟩
        have HD6 := Lib.hid (HD5.out.next hbj)
        have HL6 := Lib.hid (HL5.out.below hbj)
        clear hbj HSS HRI HD5 HL5 RB5
        go_simp
        refine hK.out _ _ (HKW.out wJ HL6.out) (fun hHeld => ?_)
        clear hK K'
        try simp only [Act.put, List.setIfInBounds_toArray, List.set_cons_zero, List.set_cons_succ]
        refine take_at (i := 27) (v := ?_) 182 rfl rfl (by kernel_rfl) (by kernel_rfl) (by kernel_rfl) (fun _ _ _ h => h) (Or.inl ⟨by rfl, ?_⟩) (by assumption) ?_
        rotate_left
        · intro w hSw; go_simp <;> with_reducible rfl
        try simp only [Act.put, List.setIfInBounds_toArray, List.set_cons_zero, List.set_cons_succ]
        refine take_at (i := 28) (v := ?_) 8 rfl rfl (by kernel_rfl) (by kernel_rfl) (by kernel_rfl) (fun _ _ _ h => h) (Or.inl ⟨by rfl, ?_⟩) (by assumption) ?_
        rotate_left
        · intro w hSw; go_simp <;> with_reducible rfl
        try simp only [Act.put, List.setIfInBounds_toArray, List.set_cons_zero, List.set_cons_succ]
        refine wpAnyH_done (by kernel_rfl) ?_ _
        clear hHeld
        go_wp2_with fail
        go_ret
        exact ⟨rfl, HB1.out.trans (HD6.out.below.mono HB1.out.size)⟩
  · have hez : (er == 0) = false := by simp [he]
    have hez2 : (er != 0) = true := by simp [he]
    clear HER
    go_wp2_with fail
    go_ret
    exact ⟨rfl, HB1.out.trans (H5.out.below.mono HB1.out.size)⟩
end Go.Proofs.YtkdbenoleendcaaDoor
