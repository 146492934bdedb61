/- foyerlaw29.RefundCharges returns true: the walk. -/
import Derived.Test.YtgpmhaeiccljaaaDoorRK0
namespace Go.Proofs.YtgpmhaeiccljaaaDoor
open Go.RowKit Go.IntWalk

/-- The others. -/
def otherS (L : List MeanT) (t : Name) : List MeanT := L.filter fun m => !decide (m.1 = t)

theorem other_next {L : List MeanT} {t : Name} {i : Nat} (h : i < L.length) : otherS (L.take (i + 1)) t = otherS (L.take i) t ++ if nm L i = t then [] else [(nm L i, am L i)] := by
  unfold otherS
  rw [List.take_succ_eq_append_getElem h, List.filter_append, nm_eq _ _ h, am_eq _ _ h]
  congr 1
  by_cases e : L[i].1 = t <;> simp [e]

theorem take_other (t : Name) (x : Int) : ∀ (L : List MeanT), (∀ m ∈ L, m.1 = t → m.2 = x) → (∀ m ∈ L, 1 ≤ m.2) → takeS L [(t, x)] = otherS L t
  | [], _, _ => rfl
  | m :: L, h1, h2 => by
    have ih := take_other t x L (fun y hy => h1 y (by simp [hy])) (fun y hy => h2 y (by simp [hy]))
    have hm1 := h1 m (by simp)
    have hm2 := h2 m (by simp)
    unfold takeS otherS at ih ⊢
    rw [List.map_cons, List.map_cons, somePos, ih, List.filter_cons]
    by_cases e : m.1 = t
    · have : m.2 - ofS [(t, x)] m.1 = 0 := by rw [hm1 e, e, ofS, if_pos rfl]; omega
      rw [this, if_neg (by omega), if_neg (by simp [e])]
    · have : m.2 - ofS [(t, x)] m.1 = m.2 := by rw [ofS, if_neg (fun h => e h.symm)]; show _ - 0 = _; omega
      rw [this, if_pos (by omega), if_pos (by simp [e])]

theorem chg_other {L : List MeanT} (h : Good L) (t : Name) : chgS L t = otherS L t := by
  unfold chgS
  by_cases h0 : ofS L t = 0
  · rw [if_pos h0]
    rcases has_name h t with ⟨_, hno⟩ | ⟨i, hi, _, e, hp⟩
    · unfold otherS
      symm
      rw [List.filter_eq_self]
      intro m hm
      obtain ⟨i, hi, rfl⟩ := List.getElem_of_mem hm
      have := hno i hi
      rw [nm_eq _ _ hi] at this
      simpa using this
    · omega
  · rw [if_neg h0]
    refine take_other t _ L (fun m hm e => ?_) (fun m hm => ?_)
    · obtain ⟨i, hi, rfl⟩ := List.getElem_of_mem hm
      rw [← e, ← nm_eq _ _ hi, of_at h.diff i hi, am_eq _ _ hi]
    · obtain ⟨i, hi, rfl⟩ := List.getElem_of_mem hm
      have := h.pos i hi
      rwa [am_eq _ _ hi] at this

theorem other_of (L : List MeanT) (t : Name) : ofS (otherS L t) t = 0 := of_none fun i hi e => by
  have hm := List.getElem_mem hi
  rw [nm_eq _ _ hi] at e
  unfold otherS at hm
  rw [List.mem_filter] at hm
  have := hm.2
  unfold otherS at e
  simp [e] at this

theorem other_len (L : List MeanT) (t : Name) : (otherS L t).length ≤ L.length := by unfold otherS; exact List.length_filter_le _ _

theorem charge_twice {L : List MeanT} (h : Good L) (t : Name) : lostS (chgS L t) t = (0, 11) ∧ chgS (chgS L t) t = chgS L t := by
  have e := other_of L t
  rw [← chg_other h t] at e
  constructor
  · unfold lostS; rw [if_pos e]
  · rw [show chgS (chgS L t) t = if ofS (chgS L t) t = 0 then chgS L t else takeS (chgS L t) [(t, ofS (chgS L t) t)] from rfl, if_pos e]

set_option maxRecDepth 20000 in
set_option maxHeartbeats 3200000 in
theorem refundCharges_any (ra : Option Addr) (n c : Nat) (l : List MeanT) (ro : Option Addr) (m d : Nat) (ops : List OpT) (t : Name) (w : World) (hn : n ≤ 9223372036854775807) (hM : Means w ra n l) (hl : ∀ i, i < n → (nm l i).length ≤ 9223372036854775807)
    (hm : m ≤ 9223372036854775807) (hO : OpsAt w ro m ops) (hol : ∀ i, i < m → (on ops i).length ≤ 9223372036854775807) (ht : t.length ≤ 9223372036854775807) :
    Calls Tryd.prog 7 #[.slice ra n c, .slice ro m d, .string (bs t)] w fun e w' => e = .returned (.bool true) ∧ Below w.heap.size w w' := by
  have HM := Lib.hid hM
  have HO := Lib.hid hO
  have HL := Lib.hid hl
  have HOL := Lib.hid hol
  have hlen := hM.1
  have holen := hO.1
  have hbt := bs_size t
  clear hM hO hl hol
  go_enter Tryd.func7, Tryd.ntmps7
  go_wp2_with fail
  refine (head_any w).mono ?_
  rintro e w1 ⟨rfl, hb1⟩
  have HB1 := Lib.hid hb1
  clear hb1
  go_wp2_with fail
  refine (few_any ra ro n c m d l ops w1 (HM.out.below HB1.out) (HO.out.below HB1.out) hn hm HL.out HOL.out).mono ?_
  rintro e w2 ⟨rfl, rfl⟩
  cases hf : fewO l ops
  · clear hf
    go_wp2_with fail
    go_ret
    exact ⟨rfl, HB1.out⟩
  have HF := Lib.hid (fewO_p hf)
  have hn30 := HF.out.len
  have hm30 := HF.out.olen
  clear hf
  by_cases ht60 : (60 : Int) < t.length
  · go_wp2_with fail
    go_ret
    exact ⟨rfl, HB1.out⟩
  go_wp2_with fail
  refine (new_any ra n c l w1 (HM.out.below HB1.out) (by omega) (fun i hi => HF.out.name i (by omega))).mono ?_
  rintro e w2 ⟨hb2, ⟨_, rfl⟩ | ⟨hr, g, rfl, ha⟩⟩
  · have HB2 := Lib.hid (HB1.out.trans (hb2.mono HB1.out.size))
    clear hb2
    go_wp2_with fail
    go_ret
    exact ⟨rfl, HB2.out⟩
  have HB2 := Lib.hid (HB1.out.trans (hb2.mono HB1.out.size))
  have HG := Lib.hid (doN_good (right_iff.mp hr).good ops)
  have HA := Lib.hid (ha.low HB1.out.size)
  have hgl := HA.out.le.1
  clear hb2 hr ha
  go_wp2_with fail
  go_loopw [10] (fun v10 wr => ∃ i : Nat, v10 = .int .i64 i ∧ i ≤ m ∧ Hid (Below w.heap.size w wr) ∧ Hid (RefAt wr w.heap.size g (doN l ops i))) (fun v10 _ => m - (intOf v10).toNat)
  case atStart => exact ⟨0, rfl, Nat.zero_le _, HB2, HA⟩
  case round =>
    clear HB2 HA
    obtain ⟨i, rfl, hi, HB, HA⟩ := hrel
    have hdl := doN_len l ops i
    by_cases hlt : i < m
    · obtain ⟨b, o, rfl, c0, c1⟩ := OpsAt.at (HO.out.below HB.out) i hlt
      go_wp2_with fail
      refine (do_any w.heap.size g (doN l ops i) (oa ops i) (on ops i) wr HA.out (HG.out i) (by omega)).mono ?_
      rintro e w3 ⟨la, k, c', rfl, hg3, _, ha3⟩
      have HB3 := Lib.hid (below_grown HB.out hg3 hgl)
      have HA3 : Hid (RefAt w3 w.heap.size g (doN l ops (i + 1))) := ha3
      clear hg3 ha3 c0 c1
      go_wp2_with fail
      go_roundw
      case rel => exact ⟨i + 1, by go_num, hlt, HB3, HA3⟩
      case measure => simp [intOf]; omega
    · have hi' : i = m := by omega
      subst hi'
      have HGL := Lib.hid (HG.out i)
      generalize doN l ops i = L at *
      have hs := HGL.out.sum
      have HPos : Hid (∀ i, i < L.length → 0 ≤ am L i ∧ am L i ≤ 1000000000) := fun i hi => by have := HGL.out.le i hi; omega
      go_wp2_with fail
      refine (left_any w.heap.size g L wr HA.out (by omega)).mono ?_
      rintro e w3 ⟨ll, kl, cl, rfl, _, hb3, ho3⟩
      have hkl := ho3.1
      have HB3 := Lib.hid (HB.out.trans (hb3.mono HB.out.size))
      have HA3 := Lib.hid (HA.out.below hb3)
      have HL3 := Lib.hid ho3.recs
      clear hb3 ho3 HB HA
      obtain ⟨i1, hj, hj0, hj1, hj2⟩ := info_parts info_mean
      go_wp2_with fail
      go_loopw [12, 13] (fun v12 v13 wx => ∃ j : Nat, v13 = .int .i64 j ∧ j ≤ kl ∧ Hid (Below w3.heap.size w3 wx) ∧ Hid (wx.ownsRow w3.heap.size 46 2 v12 (otherS (L.take j) t).length (flat MeanE (otherS (L.take j) t)))) (fun _ v13 _ => kl - (intOf v13).toNat)
      case atStart => exact ⟨0, rfl, Nat.zero_le _, Below.refl _ _, World.ownsRow_nil _ _ _ _⟩
      case round =>
        obtain ⟨j, rfl, hj', HBX, HOX⟩ := hrel
        have hol := other_len (L.take j) t
        rw [List.length_take] at hol
        have hsz := HBX.out.size
        by_cases hjl : j < kl
        · obtain ⟨b, o, rfl, c0, c1⟩ := Means.at (HL3.out.below HBX.out) j hjl
          have HON := Lib.hid (other_next (L := L) (t := t) (i := j) (by omega))
          by_cases he : nm L j = t
          · have e1 : ((bs (nm L j)).toList == (bs t).toList) = true := by rw [bs_beq]; simp [he]
            rw [if_pos he, List.append_nil] at HON
            clear he
            go_wp2_with fail
            refine ⟨⟨j + 1, by go_num, hjl, HBX.out, ?_⟩, by simp [intOf]; omega⟩
            show World.ownsRow _ _ _ _ _ _ _
            rw [HON.out]
            exact HOX.out
          · have e1 : ((bs (nm L j)).toList == (bs t).toList) = false := by rw [bs_beq]; simp [he]
            rw [if_neg he] at HON
            clear he
            go_wp2_with (at_builtin; refine wpList_append_own _ rfl _ _ 22 rfl w3.heap.size 46 i1 _ 2 24 Tryd.underlying22 hj hj0 hj1 hj2 rfl (by decide) _ _ _ rfl (HOX.out.alloc _) ⟨wr.heap.size, 0, none⟩ 1 1 (MeanE.cells (nm L j, am L j)) rfl rfl (mean_new wr (nm L j, am L j)) (MeanE.one _) (by unfold maxLen; omega) (by omega) (by simp; omega) ?_; intro v' w4 hown' hgrow _; have HN := Lib.hid (And.intro hown' hgrow); clear hown' hgrow)
            refine ⟨⟨j + 1, by go_num, hjl, (HBX.out.alloc hsz _).grown HN.out.2 (by simp; omega) (fun k e => (HOX.out.lt k e).1), ?_⟩, by simp [intOf]; omega⟩
            show w4.ownsRow _ _ _ _ _ _
            rw [HON.out, mean_snoc, List.length_append, List.length_singleton]
            exact HN.out.1
        · have hjk : j = kl := by omega
          subst hjk
          obtain ⟨lb, cb, rfl, ho⟩ := OwnRecs.of_row HOX.out
          have htk : otherS (L.take j) t = chgS L t := by rw [List.take_of_length_le (by omega), chg_other HGL.out]
          rw [htk] at ho hol ⊢
          have HOT := Lib.hid ho.recs
          have HB4 := Lib.hid (HB3.out.trans (HBX.out.mono HB3.out.size))
          have HA4 := Lib.hid (HA3.out.below HBX.out)
          have HL4 := Lib.hid (HL3.out.below HBX.out)
          have HG2 := Lib.hid (chg_good HGL.out t)
          have hcl := chg_len L t
          have HTW := Lib.hid (charge_twice HGL.out t)
          clear ho htk HBX HOX HB3 HA3 HL3
          have HCH := Lib.hid (fun wx (hA : RefAt wx w.heap.size g L) => charge_any w.heap.size g L t wx hA HGL.out (by omega))
          obtain ⟨M, hMe⟩ : ∃ M, chgS L t = M := ⟨_, rfl⟩
          rw [hMe] at HOT HG2 hcl HTW HCH hol ⊢
          clear hMe
          go_wp2_with fail
          refine (HCH.out wr HA4.out).mono ?_
          rintro e w5 ⟨rfl, hg5, ha5⟩
          have HB5 := Lib.hid (below_grown HB4.out hg5 hgl)
          have HL5 := Lib.hid (HL4.out.farA HA4.out hg5)
          have HOT5 := Lib.hid (HOT.out.farA HA4.out hg5)
          have HA5 := Lib.hid ha5
          clear hg5 ha5 HB4 HL4 HOT HA4
          obtain ⟨lo, hlo⟩ : ∃ lo, (lostS L t).1 = lo := ⟨_, rfl⟩
          obtain ⟨er, her⟩ : ∃ er, (lostS L t).2 = er := ⟨_, rfl⟩
          have HOF : Hid (ofS L t = lo) := by
            show _ = _
            rw [← hlo]
            unfold lostS
            split
            · assumption
            · rfl
          have hcase : (lo = 0 ∧ er = 11) ∨ (1 ≤ lo ∧ er = 0) := by
            rcases has_name HGL.out t with ⟨hz, _⟩ | ⟨i, hi, _, e, hp⟩
            · left
              have := HOF.out
              refine ⟨by omega, ?_⟩
              rw [← her]; unfold lostS; rw [if_pos hz]
            · right
              have := HOF.out
              refine ⟨by omega, ?_⟩
              rw [← her]; unfold lostS; rw [if_neg (by omega)]
          rw [hlo, her]
          clear hlo her
          go_wp2_with fail
          refine (charge_any w.heap.size g M t w5 HA5.out HG2.out (by omega)).mono ?_
          rintro e w6 ⟨rfl, hg6, ha6⟩
          rw [HTW.out.1]
          rw [HTW.out.2] at ha6
          have HB6 := Lib.hid (below_grown HB5.out hg6 hgl)
          have HL6 := Lib.hid (HL5.out.farA HA5.out hg6)
          have HOT6 := Lib.hid (HOT5.out.farA HA5.out hg6)
          have HA6 := Lib.hid ha6
          clear hg6 ha6 HB5 HL5 HOT5 HA5
          have HOFA := Lib.hid (of_any ll j cl L t w6 HL6.out (by omega))
          rw [HOF.out] at HOFA
          rcases hcase with ⟨rfl, rfl⟩ | ⟨h1, rfl⟩
          all_goals
            go_wp2_with fail
            refine HOFA.out.mono ?_
            rintro e w7 ⟨rfl, rfl⟩
            go_wp2_with fail
            refine (left_any w.heap.size g M w6 HA6.out (by omega)).mono ?_
            rintro e w7 ⟨l2, k2, c2, rfl, _, hb7, ho7⟩
            have hk2 := ho7.1
            have HB7 := Lib.hid (HB6.out.trans (hb7.mono HB6.out.size))
            have HOT7 := Lib.hid (HOT6.out.below hb7)
            have HO7 := Lib.hid ho7.recs
            clear hb7 ho7
            go_wp2_with fail
            refine (same_yes l2 lb k2 k2 c2 cb M w7 HO7.out (by have := HOT7.out; rwa [hk2] at this) (by omega) (by omega)).mono ?_
            rintro e w8 ⟨rfl, hb8⟩
            have HB8 := Lib.hid (HB7.out.trans (hb8.mono HB7.out.size))
            clear hb8
            go_wp2_with fail
            go_ret
            exact ⟨rfl, HB8.out⟩
end Go.Proofs.YtgpmhaeiccljaaaDoor
