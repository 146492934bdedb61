/- hold: the laws' played and same. -/
import Derived.Test.YtkdbenoleendcaaDoorHV
namespace Go.Proofs.YtkdbenoleendcaaDoor
open Go.RowKit Go.IntWalk Go.Maps Go.WideMaps

theorem do_last {nm : NmT → Bool} {st : St} (hi : Inv st) (x : OpT) : (doS nm st x).2.last ≤ st.last + 1 := by
  unfold doS
  split
  · unfold takeS
    split
    · exact Nat.le_succ _
    · split
      · exact Nat.le_succ _
      · split
        · exact Nat.le_succ _
        · exact Nat.le_refl _
  · split
    · by_cases h0 : (swapS st x.2.2.2.1 x.2.2.1).1 = 0
      · obtain ⟨y, hy⟩ := swap_ok hi h0
        rw [hy.out]
        exact Nat.le_succ _
      · rw [swap_same hi h0]; exact Nat.le_succ _
    · split
      · rw [end_last]; exact Nat.le_succ _
      · split
        · rw [expire_last hi]; exact Nat.le_succ _
        · split
          · rw [end_last]; exact Nat.le_succ _
          · unfold freeS
            split
            · exact Nat.le_succ _
            · split
              · exact Nat.le_succ _
              · exact Nat.le_succ _

theorem play_last {nm : NmT → Bool} : ∀ (l : List OpT) {st : St}, Inv st → (playS nm st l).last ≤ st.last + l.length := by
  intro l
  induction l with
  | nil => intro st _; exact Nat.le_refl _
  | cons x l ih =>
    intro st hi
    have h1 := ih (do_inv (nm := nm) hi x)
    have h2 := do_last (nm := nm) hi x
    show (playS nm (doS nm st x).2 l).last ≤ _
    rw [List.length_cons]
    omega

theorem OpsIn.below {w w' : World} {B : Nat} {rs : List OpR} (h : OpsIn w B rs) (hb : Below w.heap.size w w') : OpsIn w' B rs := by
  intro r hr
  obtain ⟨h1, h2, h3⟩ := h r hr
  exact ⟨h1, h2.below hb, h3⟩

theorem new_len (n : Nat) : (newS n).sp.length = n := by simp [newS]

/-- The ways of the played Holds. -/
def playN (p : Nat) (l : List OpT) : St := playS nameS (newS (p % 21)) l

theorem playN_inv (p : Nat) (l : List OpT) : Inv (playN p l) := play_inv l (new_inv _)
theorem playN_last (p : Nat) (l : List OpT) : (playN p l).last ≤ l.length := by
  have := play_last (nm := nameS) l (new_inv (p % 21))
  simpa [playN, newS] using this
theorem playN_len (p : Nat) (l : List OpT) : (playN p l).sp.length = p % 21 := by
  unfold playN
  rw [play_len, new_len]

/-- What New .. and the operations leave. -/
def PlayPost (st : St) (w : World) (e : Ending) (w' : World) : Prop :=
  ∃ g M sb, e = .returned (.pointer (some ⟨g, 0, none⟩)) ∧ Below w.heap.size w w' ∧ HS w' g M sb st ∧ ∀ i, Own3 g M sb i → w.heap.size ≤ i

set_option maxRecDepth 10000 in
set_option maxHeartbeats 1600000 in
theorem played_any (p : Nat) (hp : p ≤ 255) (ra : Option Addr) (n c B : Nat) (rs : List OpR) (w : World) (h : Recs OpE w ra n rs) (ho : OpsIn w B rs) (hf : fewB (rs.map (·.1)) = true) :
    Calls Tryd.prog 11 #[.int .u8 p, .slice ra n c] w (PlayPost (playN p (rs.map (·.1))) w) := by
  have HM := Lib.hid h
  have HO := Lib.hid ho
  have HF := Lib.hid (fewB_iff.mp hf)
  have hlen := h.1
  have hn : n ≤ 40 := by have := HF.out.2; simp at this; omega
  clear h ho hf
  have hmod : (p : Int) % 21 = ((p % 21 : Nat) : Int) := by omega
  have hq : p % 21 < 21 := Nat.mod_lt _ (by omega)
  obtain ⟨q, hqq⟩ : ∃ q, q = p % 21 := ⟨_, rfl⟩
  have HQ := Lib.hid hqq
  rw [← hqq] at hmod hq
  clear hqq
  go_enter Tryd.func11, Tryd.ntmps11
  go_wp2_with fail
  refine (hs_new w q (by omega)).mono ?_
  rintro e w1 ⟨g, M, sb, rfl, hb, hh, hown⟩
  have HB1 := Lib.hid hb
  have HH1 := Lib.hid hh
  have HW1 := Lib.hid hown
  clear hb hh hown hmod
  go_wp2_with fail
  go_loopw [6] (fun v6 wr => ∃ i : Nat, v6 = .int .i64 i ∧ i ≤ n ∧ Hid (HS wr g M sb (playS nameS (newS q) ((rs.map (·.1)).take i))) ∧ Hid (Below w.heap.size w wr)) (fun v6 _ => n - (intOf v6).toNat)
  case atStart => exact ⟨0, rfl, Nat.zero_le _, HH1.out, HB1.out⟩
  case round =>
    obtain ⟨i, rfl, hi, HH, HB⟩ := hrel
    by_cases hlt : i < n
    · have hiE : i < rs.length := by omega
      obtain ⟨b, o, rfl, c0, c1, c2, c3, c4⟩ := op_at (HM.out.below HB.out) i hlt hiE
      obtain ⟨hwf, hin, _⟩ := HO.out _ (List.getElem_mem hiE)
      have hfw := HF.out.1 _ (List.mem_map_of_mem (List.getElem_mem hiE))
      have hla := play_last (nm := nameS) ((rs.map (·.1)).take i) (new_inv q)
      have hsp := play_len (nm := nameS) ((rs.map (·.1)).take i) (newS q)
      rw [new_len] at hsp
      have hla2 : (playS nameS (newS q) ((rs.map (·.1)).take i)).last ≤ 40 := by
        have h0 : (newS q).last = 0 := rfl
        rw [h0, List.length_take, List.length_map] at hla
        omega
      have HD := Lib.hid (do_any wr g M sb _ rs[i].1.1 rs[i].1.2.1 rs[i].1.2.2.1 rs[i].1.2.2.2.1 rs[i].1.2.2.2.2 rs[i].2.1 rs[i].1.2.2.1.length rs[i].2.2 HH.out (by omega) (by omega) (by omega) (by omega) hwf.1
        (fun wx hu => hin.below (HB.out.trans ⟨hu.os, hu.tape, hu.output, Nat.le_trans (Nat.le_refl _) hu.size, fun j hj => hu.block j (Nat.lt_of_lt_of_le hj HB.out.size) (fun ht => by have := HW1.out j ht; omega)⟩)))
      have HN : Hid (playS nameS (newS q) ((rs.map (·.1)).take (i + 1)) = (doS nameS (playS nameS (newS q) ((rs.map (·.1)).take i)) rs[i].1).2) := by
        show _ = _
        have := play_take (nm := nameS) (st := newS q) (l := rs.map (·.1)) (i := i) (by simpa using hiE)
        simpa using this
      clear hwf hin hfw hla hsp hla2
      generalize rs[i] = x at *
      obtain ⟨⟨k, t, L, id, cl⟩, pa, pc⟩ := x
      dsimp only at c0 c1 c2 c3 c4 HD HN
      go_wp2_with fail
      refine HD.out.mono ?_
      rintro e w2 ⟨v, rfl, _, hh, hu⟩
      have HH2 := Lib.hid hh
      have HU2 := Lib.hid hu
      clear hh hu HD
      go_wp2_with fail
      refine ⟨⟨i + 1, by go_num, hlt, ?_, Upd.below HB.out HU2.out (fun j hj => HW1.out j hj)⟩, by simp [intOf]; omega⟩
      show HS _ _ _ _ _
      rw [HN.out]
      exact HH2.out
    · have hi' : i = n := by omega
      subst hi'
      have hT : (rs.map (·.1)).take i = rs.map (·.1) := List.take_of_length_le (by simp; omega)
      rw [hT] at HH
      clear hT
      go_wp2_with fail
      go_ret
      refine ⟨g, M, sb, rfl, HB.out, ?_, HW1.out⟩
      unfold playN
      rw [← HQ.out]
      exact HH.out

theorem HRow.recs {w : World} {v : Value} {op : List HoldT} (h : HRow w v op) (hp : ∀ x ∈ op, x.2.2.1.length ≤ 4000) : ∃ E la c, v = .slice la E.length c ∧ E.map (·.1) = op ∧ Recs OwnE w la E.length E ∧ (∀ x ∈ E, PlIn w x) ∧ E.length ≤ c := by
  obtain ⟨E, la, c, e, ho, hr, hpl, hc⟩ := h
  refine ⟨E, la, c, e, ho, ⟨rfl, fun i hi => ?_⟩, fun x hx => ?_, hc⟩
  · obtain ⟨b, e, r⟩ := hr (by omega)
    exact ⟨b, 0, e, fun j hj => by rw [Nat.zero_add]; exact r.cell i j hi hj⟩
  · obtain ⟨b, e, _, r⟩ := hpl x hx
    refine ⟨hp x.1 (by rw [← ho]; exact List.mem_map_of_mem hx), ?_⟩
    rw [e]
    exact ⟨rfl, fun k hk => ⟨b, 0, rfl, by rw [Nat.zero_add]; exact r.cell k hk⟩⟩

theorem inv_pl {st : St} (h : Inv st) : ∀ x ∈ st.op, x.2.2.1.length ≤ 4000 := fun x hx => by
  have := (choice_iff.mp (h.chs x hx)).1.2
  omega

/-- SameSpaces and SameHolds at lists that were handed back. -/
theorem hs_samesp {w : World} {A B : Nat} {v u : Value} {sp sq : List SpT} (h : SRow w A v sp) (k : SRow w B u sq) (h1 : sp.length ≤ 4000) (h2 : sq.length ≤ 4000) :
    Calls Tryd.prog 15 #[v, u] w fun e w' => e = .returned (.bool (decide (sp = sq))) ∧ Below w.heap.size w w' := by
  obtain ⟨la, c, rfl, hr⟩ := h.recs
  obtain ⟨lb, c2, rfl, hr2⟩ := k.recs
  refine (samesp_any la lb _ c _ c2 sp sq w hr hr2 (by omega) (by omega)).mono ?_
  rintro e w' ⟨rfl, hq⟩
  exact ⟨rfl, hq.below⟩

theorem hs_sameho {w : World} {v u : Value} {op oq : List HoldT} (h : HRow w v op) (k : HRow w u oq) (h1 : op.length ≤ 4000) (h2 : oq.length ≤ 4000) (hp : ∀ x ∈ op, x.2.2.1.length ≤ 4000) (hq : ∀ x ∈ oq, x.2.2.1.length ≤ 4000) :
    Calls Tryd.prog 16 #[v, u] w fun e w' => e = .returned (.bool (decide (op = oq))) ∧ Below w.heap.size w w' := by
  obtain ⟨E, la, c, rfl, ho, hr, hpl, _⟩ := h.recs hp
  obtain ⟨E2, lb, c2, rfl, ho2, hr2, hpl2, _⟩ := k.recs hq
  have hl : E.length ≤ 4000 := by rw [← ho] at h1; simpa using h1
  have hl2 : E2.length ≤ 4000 := by rw [← ho2] at h2; simpa using h2
  refine (sameholds_any la lb _ c _ c2 E E2 w hr hr2 hpl hpl2 (by omega) (by omega)).mono ?_
  rintro e w' ⟨rfl, hb⟩
  rw [ho, ho2]
  exact ⟨rfl, hb⟩

set_option maxHeartbeats 800000 in
theorem same_any (w : World) (g M sb g2 M2 sb2 : Nat) (st st2 : St) (h : HS w g M sb st) (k : HS w g2 M2 sb2 st2) (hl : st.last ≤ 1000) (hl2 : st2.last ≤ 1000) (hsp : st.sp.length ≤ 4000) (hsp2 : st2.sp.length ≤ 4000) :
    Calls Tryd.prog 20 #[.pointer (some ⟨g, 0, none⟩), .pointer (some ⟨g2, 0, none⟩)] w fun e w' => e = .returned (.bool (decide (st.sp = st2.sp ∧ st.op = st2.op))) ∧ Below w.heap.size w w' := by
  have HP := Lib.hid (inv_pl h.inv)
  have HP2 := Lib.hid (inv_pl k.inv)
  have hol := inv_len h.inv
  have hol2 := inv_len k.inv
  have HH := Lib.hid h
  have HK := Lib.hid k
  clear h k
  go_enter Tryd.func20, Tryd.ntmps20
  go_wp2_with fail
  refine (hs_spaces HH.out hsp).mono ?_
  rintro e w1 ⟨v1, rfl, hb1, hh1, hr1⟩
  have HB1 := Lib.hid hb1
  have HH1 := Lib.hid hh1
  have HR1 := Lib.hid hr1
  clear hb1 hh1 hr1
  go_wp2_with fail
  refine (hs_spaces (HK.out.below HB1.out) hsp2).mono ?_
  rintro e w2 ⟨v2, rfl, hb2, hh2, hr2⟩
  have HB2 : Hid (Below w.heap.size w w2) := HB1.out.trans (hb2.mono HB1.out.size)
  have HK2 := Lib.hid hh2
  have HR2 := Lib.hid hr2
  have HH2 := Lib.hid (HH1.out.below hb2)
  have HR12 := Lib.hid (HR1.out.below hb2)
  clear hb2 hh2 hr2
  go_wp2_with fail
  refine (hs_samesp HR12.out HR2.out hsp hsp2).mono ?_
  rintro e w3 ⟨rfl, hb3⟩
  have HB3 : Hid (Below w.heap.size w w3) := HB2.out.trans (hb3.mono HB2.out.size)
  have HH3 := Lib.hid (HH2.out.below hb3)
  have HK3 := Lib.hid (HK2.out.below hb3)
  clear hb3
  by_cases he : st.sp = st2.sp
  · have HE := Lib.hid he
    have hd : decide (st.sp = st2.sp) = true := by simp [he]
    clear he
    go_wp2_with fail
    refine (hs_list HH3.out hl).mono ?_
    rintro e w4 ⟨v3, rfl, hb4, hh4, hr4⟩
    have HB4 : Hid (Below w.heap.size w w4) := HB3.out.trans (hb4.mono HB3.out.size)
    have HK4 := Lib.hid (HK3.out.below hb4)
    have HR4 := Lib.hid hr4
    clear hb4 hh4 hr4
    go_wp2_with fail
    refine (hs_list HK4.out hl2).mono ?_
    rintro e w5 ⟨v4, rfl, hb5, hh5, hr5⟩
    have HB5 : Hid (Below w.heap.size w w5) := HB4.out.trans (hb5.mono HB4.out.size)
    have HR45 := Lib.hid (HR4.out.below hb5)
    have HR5 := Lib.hid hr5
    clear hb5 hh5 hr5
    go_wp2_with fail
    refine (hs_sameho HR45.out HR5.out (by omega) (by omega) HP.out HP2.out).mono ?_
    rintro e w6 ⟨rfl, hb6⟩
    have HB6 : Hid (Below w.heap.size w w6) := HB5.out.trans (hb6.mono HB5.out.size)
    have HS : Hid (decide (st.sp = st2.sp ∧ st.op = st2.op) = decide (st.op = st2.op)) := by
      show _ = _
      simp [HE.out]
    clear hb6
    go_wp2_with fail
    go_ret
    exact ⟨by rw [HS.out]; rfl, HB6.out⟩
  · have HS : Hid (decide (st.sp = st2.sp ∧ st.op = st2.op) = false) := by
      show _ = _
      simp [he]
    have hd : decide (st.sp = st2.sp) = false := by simp [he]
    clear he
    go_wp2_with fail
    go_ret
    exact ⟨by rw [HS.out]; rfl, HB3.out⟩
end Go.Proofs.YtkdbenoleendcaaDoor
