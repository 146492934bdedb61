/- foyerlaw29.RefundEnd returns true: the walk. -/
import Derived.Test.YtgpmhaeiccljaaaDoorXQ
namespace Go.Proofs.YtgpmhaeiccljaaaDoor
open Go.RowKit Go.IntWalk

theorem BoolRow.below {w w' : World} {g : Nat} {T : TypeId} {D : List Bool} (h : BoolRow w g T D) (hb : Below w.heap.size w w') : BoolRow w' g T D := by
  obtain ⟨arr, e, r⟩ := h
  exact ⟨arr, (hb.block g (lt_of_block e)).trans e, r⟩

theorem RefAt.farT {w w' : World} {B g gs : Nat} {l : List MeanT} {arr : Array Value} {T : TypeId} (h1 : T ≠ 59) (h2 : T ≠ 46) (h : RefAt w B g l) (hb : w.heap[gs]? = some (.cells arr T (0, 0))) (hg : w.grownBy w' (some gs)) : RefAt w' B g l := by
  obtain ⟨la, k, c, hh, hB, ho⟩ := h
  refine ⟨la, k, c, (hg.block g (lt_of_block hh) ?_).trans hh, hB, ho.1, fun hn => ?_⟩
  · intro e
    cases e
    rw [hh] at hb
    simp only [Option.some.injEq, Obj.cells.injEq] at hb
    exact h1 hb.2.1.symm
  · obtain ⟨g', e, hg', hr⟩ := ho.2 hn
    refine ⟨g', e, hg', hr.grown hg ?_⟩
    obtain ⟨ar, ha, _⟩ := hr
    intro e
    cases e
    rw [ha] at hb
    simp only [Option.some.injEq, Obj.cells.injEq] at hb
    exact h2 hb.2.1.symm

/-- The memory of RefundEnd. -/
structure EndM (w0 wx : World) (g gs gc : Nat) (L : List MeanT) (S : List Int) (C : List Bool) : Prop where
  below : Below w0.heap.size w0 wx
  ref : RefAt wx w0.heap.size g L
  sums : IntRow wx gs 3 S
  mark : BoolRow wx gc 4 C

section
variable {w0 wx w' : World} {g gs gc : Nat} {L L' : List MeanT} {S : List Int} {C : List Bool}

theorem EndM.drewN (h : EndM w0 wx g gs gc L S C) (q : Nat) : EndM w0 (wx.drewN q) g gs gc L S C :=
  ⟨below_drewN h.below q, h.ref.below (below_drewN (Below.refl _ _) q), h.sums, h.mark⟩

theorem EndM.keep (h : EndM w0 wx g gs gc L S C) (hb : Below wx.heap.size wx w') : EndM w0 w' g gs gc L S C :=
  ⟨h.below.trans (hb.mono h.below.size), h.ref.below hb, h.sums.below hb, h.mark.below hb⟩

theorem EndM.step (h : EndM w0 wx g gs gc L S C) (hg : wx.grownBy w' (some g)) (hr : RefAt w' w0.heap.size g L') (h1 : g < gs) (h2 : gs < gc) : EndM w0 w' g gs gc L' S C :=
  ⟨below_grown h.below hg h.ref.le.1, hr, h.sums.grown hg (by omega), h.mark.grown hg (by omega)⟩

theorem EndM.putS (h : EndM w0 wx g gs gc L S C) (h1 : g < gs) (h2 : gs < gc) (k : Nat) (hk : k < S.length) (v : Int) : EndM w0 (wx.setCell ⟨gs, k, none⟩ (.int .i64 v)) g gs gc L (S.set k v) C := by
  have hgr := grown_setCell wx gs k (.int .i64 v)
  obtain ⟨arr, e, _⟩ := h.sums
  exact ⟨below_grown h.below hgr (by have := h.ref.le.1; omega), h.ref.farT (by decide) (by decide) e hgr, h.sums.set k hk v, h.mark.grown hgr (by omega)⟩

theorem EndM.putC (h : EndM w0 wx g gs gc L S C) (h1 : g < gs) (h2 : gs < gc) (k : Nat) (hk : k < C.length) (v : Bool) : EndM w0 (wx.setCell ⟨gc, k, none⟩ (.bool v)) g gs gc L S (C.set k v) := by
  have hgr := grown_setCell wx gc k (.bool v)
  obtain ⟨arr, e, _⟩ := h.mark
  exact ⟨below_grown h.below hgr (by have := h.ref.le.1; omega), h.ref.farT (by decide) (by decide) e hgr, h.sums.grown hgr (by omega), h.mark.set k hk v⟩
end

theorem doN_of {l : List MeanT} (h : Good l) (ops : List OpT) (u : Name) (hu : u ≠ []) : ∀ i, ofS (doN l ops i) u ≤ ofS l u
  | 0 => Int.le_refl _
  | i + 1 => by
    have ih := doN_of h ops u hu i
    have st := do_step (doN_good h ops i) (oa ops i) (on ops i) u hu
    have h1 := st.sum
    have h2 := st.lo
    have h3 := st.lost0
    show ofS (doLeft (doN l ops i) (oa ops i) (on ops i)) u ≤ _
    split at h1 <;> omega

theorem name_ne {l : List MeanT} (h : RightP l) (k : Nat) (hk : k < l.length) : nm l k ≠ [] := by
  intro e
  have := h.name k hk
  rw [e] at this
  exact absurd this (by decide)

set_option maxRecDepth 20000 in
set_option maxHeartbeats 3200000 in
theorem refundEnd_any (ra : Option Addr) (n c : Nat) (l : List MeanT) (ro : Option Addr) (m d : Nat) (ops : List OpT) (w : World) (hn : n ≤ 9223372036854775807) (hM : Means w ra n l) (hl : ∀ i, i < n → (nm l i).length ≤ 9223372036854775807)
    (hm : m ≤ 9223372036854775807) (hO : OpsAt w ro m ops) (hol : ∀ i, i < m → (on ops i).length ≤ 9223372036854775807) :
    Calls Tryd.prog 6 #[.slice ra n c, .slice ro m d] w fun e w' => e = .returned (.bool true) ∧ Below w.heap.size w w' := by
  have HM := Lib.hid hM
  have HO := Lib.hid hO
  have HL := Lib.hid hl
  have HOL := Lib.hid hol
  have hlen := hM.1
  have holen := hO.1
  clear hM hO hl hol
  go_enter Tryd.func6, Tryd.ntmps6
  go_wp2_with fail
  refine (head_any w).mono ?_
  rintro e w1 ⟨rfl, hb1⟩
  have HB1 := Lib.hid hb1
  clear hb1
  go_wp2_with fail
  refine (few_any ra ro n c m d l ops w1 (HM.out.below HB1.out) (HO.out.below HB1.out) hn hm HL.out HOL.out).mono ?_
  rintro e w2 ⟨rfl, rfl⟩
  cases hf : fewO l ops
  · clear hf
    go_wp2_with fail
    go_ret
    exact ⟨rfl, HB1.out⟩
  have HF := Lib.hid (fewO_p hf)
  have hn30 := HF.out.len
  have hm30 := HF.out.olen
  clear hf
  go_wp2_with fail
  refine (new_any ra n c l w1 (HM.out.below HB1.out) (by omega) (fun i hi => HF.out.name i (by omega))).mono ?_
  rintro e w2 ⟨hb2, ⟨_, rfl⟩ | ⟨hr, g, rfl, ha⟩⟩
  · have HB2 := Lib.hid (HB1.out.trans (hb2.mono HB1.out.size))
    clear hb2
    go_wp2_with fail
    go_ret
    exact ⟨rfl, HB2.out⟩
  have HB2 := Lib.hid (HB1.out.trans (hb2.mono HB1.out.size))
  have HNM := Lib.hid (fun k (hk : k < l.length) => name_ne (right_iff.mp hr) k hk)
  have HGL := Lib.hid (right_iff.mp hr).good
  have HG := Lib.hid (doN_good (right_iff.mp hr).good ops)
  have HA := Lib.hid (ha.low HB1.out.size)
  have hgl := HA.out.le
  obtain ⟨arr, hs, hz, hmk⟩ := make_ints n (by omega)
  obtain ⟨brr, hs2, hz2, hmk2⟩ := make_bools n (by omega)
  have HE0 : Hid (EndM w ((w2.alloc (.cells arr 3)).alloc (.cells brr 4)) g w2.heap.size (w2.heap.size + 1) l (List.replicate l.length 0) (List.replicate l.length false)) := by
    have hb3 := Joins.below_alloc1 w2 (.cells arr 3)
    have hb4 := Joins.below_alloc1 (w2.alloc (.cells arr 3)) (.cells brr 4)
    refine ⟨(HB2.out.trans (hb3.mono HB2.out.size)).trans (hb4.mono (by have := HB2.out.size; have := hb3.size; omega)), (HA.out.below hb3).below hb4, ?_, ?_⟩
    · rw [hlen]; exact (IntRow.made (T := 3) rfl hs hz).below hb4
    · rw [hlen]; exact BoolRow.made (T := 4) (by simp) hs2 hz2
  have HSI : Hid (SumInv l l [] 0 (List.replicate l.length 0) (List.replicate l.length false)) := sum_first l [] (right_iff.mp hr).good
  clear hb2 hr ha hs hz hs2 hz2
  go_upto_region 9 with fail
  obtain ⟨gs, hgs⟩ : ∃ gs, w2.heap.size = gs := ⟨_, rfl⟩
  have hggs : g < gs := by omega
  rw [hgs] at HE0
  rw [hgs]
  generalize (w2.alloc (.cells arr 3)).alloc (.cells brr 4) = w3 at *
  clear hmk hmk2 HA HB2 hgs
  obtain ⟨gc, hgc⟩ : ∃ gc, gs + 1 = gc := ⟨_, rfl⟩
  rw [hgc] at HE0 ⊢
  have hgsc : gs < gc := by omega
  clear hgc
  go_wp2_with fail
  go_loopw [10] (fun v10 wr => ∃ (i : Nat) (S : List Int) (C : List Bool), v10 = .int .i64 i ∧ i ≤ m ∧ Hid (EndM w wr g gs gc (doN l ops i) S C) ∧ Hid (SumInv l (doN l ops i) [] 0 S C)) (fun v10 _ => m - (intOf v10).toNat)
  case atStart => exact ⟨0, _, _, rfl, Nat.zero_le _, HE0, HSI⟩
  case round =>
    clear HE0 HSI
    obtain ⟨i, S, C, rfl, hi, HE, HSI⟩ := hrel
    have hdl := doN_len l ops i
    have hdl2 := doN_len l ops (i + 1)
    by_cases hlt : i < m
    · have HNL : Hid (doN l ops (i + 1) = doLeft (doN l ops i) (oa ops i) (on ops i)) := rfl
      rw [HNL.out] at hdl2
      have HGG := Lib.hid (HG.out i)
      obtain ⟨b, o, rfl, c0, c1⟩ := OpsAt.at (HO.out.below HE.out.below) i hlt
      have HLA := Lib.hid (fun k (hk : k < l.length) => (doN_of HGL.out ops (nm l k) (HNM.out k hk) i))
      have HST := Lib.hid (fun u (hu : u ≠ []) => do_step HGG.out (oa ops i) (on ops i) u hu)
      obtain ⟨L, hLe⟩ : ∃ L, doN l ops i = L := ⟨_, rfl⟩
      obtain ⟨x, hxe⟩ : ∃ x, oa ops i = x := ⟨_, rfl⟩
      obtain ⟨t, hte⟩ : ∃ t, on ops i = t := ⟨_, rfl⟩
      have HOX := Lib.hid hxe
      have HOT := Lib.hid hte
      rw [hLe] at HGG HE HSI HNL hdl hdl2 HST HLA
      rw [hxe] at c0 HNL hdl2 HST
      rw [hte] at c1 HNL hdl2 HST
      clear hLe hxe hte
      go_wp2_with fail
      refine (do_any w.heap.size g L x t wr HE.out.ref HGG.out (by omega)).mono ?_
      rintro e w3 ⟨lx, kx, cx, rfl, hg3, ho3, ha3⟩
      have hwr := HE.out.sums.lt
      have hwr2 := HE.out.mark.lt
      have HE3 := Lib.hid (HE.out.step hg3 ha3 hggs hgsc)
      have HX3 := Lib.hid ho3
      have hkx := ho3.1
      have hbk : (doBack L x t).length ≤ 30 := by
        unfold doBack
        split
        · have := mpart_len L x; omega
        · simp
      obtain ⟨Bk, hBk⟩ : ∃ Bk, wr.heap.size = Bk := ⟨_, rfl⟩
      rw [hBk] at HX3 hwr hwr2
      clear hg3 ho3 ha3 c0 c1 HE hBk
      obtain ⟨NL, hNL⟩ : ∃ NL, doLeft L x t = NL := ⟨_, rfl⟩
      obtain ⟨BK, hBK⟩ : ∃ BK, doBack L x t = BK := ⟨_, rfl⟩
      obtain ⟨lo, hlo⟩ : ∃ lo, doLost L t = lo := ⟨_, rfl⟩
      obtain ⟨er, her⟩ : ∃ er, doErr L x t = er := ⟨_, rfl⟩
      rw [hNL] at HNL HE3 hdl2
      rw [hBK] at HX3 hkx hbk
      rw [hNL, hBK, hlo, her] at HST
      rw [hlo, her]
      clear hNL hBK hlo her
      have hst0 := HST.out [0] (by decide)
      have HERR := Lib.hid hst0.err
      have hlo0 := hst0.lost0
      have hlo1 := hst0.bound
      clear hst0
      by_cases he : er = 0
      · subst er
        clear HERR
        have HSB : Hid (SumInv l L NL 0 S C) := HSI.out.begin
        clear HSI
        go_wp2_with fail
        obtain ⟨wo, rfl⟩ : ∃ wo : World, wo = w3 := ⟨_, rfl⟩
        go_loopw [14] (fun v14 wx => ∃ (k : Nat) (S : List Int) (C : List Bool), v14 = .int .i64 k ∧ k ≤ n ∧ Hid (EndM w wx g gs gc NL S C) ∧ Hid (OwnRecs MeanE wx Bk 46 lx kx BK) ∧ Hid (SumInv l L NL k S C)) (fun v14 _ => n - (intOf v14).toNat)
        case atStart => exact ⟨0, S, C, rfl, Nat.zero_le _, HE3, HX3, HSB⟩
        case round =>
          clear HE3 HX3 HSB
          obtain ⟨k, S2, C2, rfl, hk, HE, HX, HSI⟩ := hrel
          by_cases hkl : k < n
          · have hsl : S2.length = n := by rw [HSI.out.slen]; exact hlen
            have hcl : C2.length = n := by rw [HSI.out.clen]; exact hlen
            obtain ⟨b2, o2, rfl, d0, d1⟩ := Means.at (HM.out.below HE.out.below) k hkl
            obtain ⟨hsk, hck⟩ := HSI.out.at (k := k) (by omega)
            have hst := HST.out (nm l k) (HNM.out k (by omega))
            have hgd := HGL.out.le k (by omega)
            have hofl := of_nonneg HGG.out (nm l k)
            obtain ⟨u, hu⟩ : ∃ u, nm l k = u := ⟨_, rfl⟩
            have HU := Lib.hid hu
            rw [hu] at hsk hck hst d0 hofl
            clear hu
            have ho := of_any lx kx cx BK u wr HX.out.recs (by omega)
            obtain ⟨n1, hn1⟩ : ∃ n1, ofS BK u = n1 := ⟨_, rfl⟩
            have hsum := hst.sum
            have hn0 := hst.lo
            have hl0 := hst.lo'
            have hgone := hst.gone
            rw [hn1] at ho hsum hn0
            have HO1 := Lib.hid ho
            obtain ⟨s1, hs1⟩ : ∃ s1, ix S2 k = s1 := ⟨_, rfl⟩
            rw [hs1] at hsk
            have q0 := HE.out.sums.cell k (by omega)
            rw [hs1] at q0
            have f0 := HE.out.sums.free k
            have p0 := HE.out.mark.cell k (by omega)
            have HLB : Hid (ofS L u ≤ am l k) := by
              have h1 := HLA.out k (by omega)
              rw [of_at HGL.out.diff k (by omega), HU.out] at h1
              exact h1
            have hlb := HLB.out
            obtain ⟨am0, ham⟩ : ∃ am0, am l k = am0 := ⟨_, rfl⟩
            have HAM := Lib.hid ham
            rw [ham] at hsk hgd hlb
            obtain ⟨ofL, hofL⟩ : ∃ ofL, ofS L u = ofL := ⟨_, rfl⟩
            rw [hofL] at hsk hck hsum hlb hofl
            obtain ⟨ofN, hofN⟩ : ∃ ofN, ofS NL u = ofN := ⟨_, rfl⟩
            have HOFN := Lib.hid hofN
            rw [hofN] at hsum hl0 hgone
            have hs1b : 0 ≤ s1 ∧ s1 ≤ 1000000000 := by omega
            have hn1b : 0 ≤ n1 ∧ n1 ≤ 1000000000 := by split at hsum <;> omega
            have HSK := Lib.hid hsk
            have HSUM := Lib.hid hsum
            clear hn1 hs1 hst ho ham hofL hofN d1 hsk hsum
            go_wp2_with fail
            refine HO1.out.mono ?_
            rintro e w4 ⟨rfl, rfl⟩
            go_upto_region 19 with fail
            go_cut [91] (fun v91 wx => v91 = .bool false ∧ wr = wx)
            case first =>
              cases hb : bx C2 k
              · rw [hb] at p0
                go_wp2_with fail
                go_meet
                case rel => exact ⟨rfl, rfl⟩
              · rw [hb] at p0
                have h0 := hck hb
                have E3 : Hid (n1 = 0) := by
                  show _ = _
                  have hsum := HSUM.out
                  split at hsum <;> omega
                clear h0
                go_wp2_with fail
                go_meet
                case rel => exact ⟨by simp [E3.out], rfl⟩
            case rest =>
              obtain ⟨rfl, rfl⟩ := hcut
              have HEa := Lib.hid (HE.out.putS hggs hgsc k (by omega) (s1 + n1))
              have HXa := Lib.hid (HX.out.grown (grown_setCell wr gs k (.int .i64 (s1 + n1))) (by omega))
              have hb1 : -1 ≤ s1 + n1 ∧ s1 + n1 ≤ 2000000001 := by omega
              go_upto_region 22 with fail
              generalize wr.setCell ⟨gs, k, none⟩ (.int .i64 (s1 + n1)) = w5 at *
              clear q0 f0 p0 d0 HE HX HO1
              obtain ⟨b3, o3, e3, c0, c1⟩ := OpsAt.at (HO.out.below HEa.out.below) i hlt
              obtain ⟨b4, o4, e4, d0, d1⟩ := Means.at (HM.out.below HEa.out.below) k hkl
              simp only [Option.some.injEq, Addr.mk.injEq, and_true] at e3 e4
              obtain ⟨rfl, rfl⟩ := e3
              obtain ⟨rfl, rfl⟩ := e4
              rw [HOT.out] at c1
              rw [HU.out] at d0
              have HNX : Hid (¬(True ∧ t = u) → SumInv l L NL (k + 1) (S2.set k (s1 + n1)) C2) := fun hc => by
                have hsum := HSUM.out
                have hsk := HSK.out
                rw [if_neg hc] at hsum
                refine HSI.out.next (by omega) ?_ ?_
                · rw [HU.out, HOFN.out, HAM.out]; omega
                · rw [HU.out, HOFN.out]; intro h; have := hck h; omega
              have HNY : Hid (True ∧ t = u → SumInv l L NL (k + 1) ((S2.set k (s1 + n1)).set k (s1 + n1 + lo)) (C2.set k true)) := fun hc => by
                have hsum := HSUM.out
                have hsk := HSK.out
                rw [if_pos hc] at hsum
                have h0 := hgone hc.1 hc.2
                rw [List.set_set]
                refine (HSI.out.next (by omega) ?_ ?_).put (by omega) (by rw [HU.out, HOFN.out]; exact h0)
                · rw [HU.out, HOFN.out, HAM.out]; omega
                · rw [HU.out, HOFN.out]; intro _; exact h0
              have hix : ix (S2.set k (s1 + n1)) k = s1 + n1 := by rw [ix_set _ _ _ _ (by omega), if_pos rfl]
              have hsl2 : (S2.set k (s1 + n1)).length = n := by rw [List.length_set]; exact hsl
              by_cases htu : t = u
              · have HS3 := Lib.hid (HNY.out ⟨trivial, htu⟩)
                have e1 : ((bs t).toList == (bs u).toList) = true := by rw [bs_beq]; simp [htu]
                have hb2 : s1 + n1 + lo ≤ 3000000001 := by omega
                clear htu HNX HNY hgone HST
                go_wp2_with fail
                go_quiet (fail)
                go_upto_region 23 with fail
                have HEb := Lib.hid (HEa.out.drewN nq)
                have HXb : Hid (OwnRecs MeanE (w5.drewN nq) Bk 46 lx kx BK) := HXa.out.below (below_drewN (Below.refl _ _) nq)
                generalize w5.drewN nq = w6 at *
                clear c0 c1 d0 d1
                obtain ⟨z, hz⟩ : ∃ z, s1 + n1 = z := ⟨_, rfl⟩
                rw [hz] at HEb HS3 hix hb1 hb2 hsl2
                have q0 := HEb.out.sums.cell k (by omega)
                rw [hix] at q0
                have f0 := HEb.out.sums.free k
                have HEc := Lib.hid (HEb.out.putS hggs hgsc k (by omega) (z + lo))
                have HXc := Lib.hid (HXb.out.grown (grown_setCell w6 gs k (.int .i64 (z + lo))) (by omega))
                clear HEa HXa HEb HXb hz hix
                go_upto_region 24 with fail
                generalize w6.setCell ⟨gs, k, none⟩ (.int .i64 (z + lo)) = w7 at *
                clear q0 f0
                have p0 := HEc.out.mark.cell k (by omega)
                have f0 := HEc.out.mark.free k
                have HEd := Lib.hid (HEc.out.putC hggs hgsc k (by omega) true)
                have HXd := Lib.hid (HXc.out.grown (grown_setCell w7 gc k (.bool true)) (by omega))
                go_wp2_with fail
                go_roundw
                case rel => exact ⟨k + 1, _, _, by go_num, by omega, HEd, HXd, HS3⟩
                case measure => simp [intOf]; omega
              · have HS3 := Lib.hid (HNX.out (fun h => htu h.2))
                have e1 : ((bs t).toList == (bs u).toList) = false := by rw [bs_beq]; simp [htu]
                clear htu HNX HNY hgone HST hix
                go_wp2_with fail
                go_quiet (fail)
                go_wp2_with fail
                go_roundw
                case rel => exact ⟨k + 1, _, _, by go_num, by omega, HEa.out.drewN nq, HXa.out.below (below_drewN (Below.refl _ _) nq), HS3⟩
                case measure => simp [intOf]; omega
          · have hk' : k = n := by omega
            have HS3 : Hid (SumInv l (doN l ops (i + 1)) [] 0 S2 C2) := by show SumInv _ _ _ _ _ _; rw [HNL.out]; exact HSI.out.finish (by omega)
            have HE4 : Hid (EndM w wr g gs gc (doN l ops (i + 1)) S2 C2) := by show EndM _ _ _ _ _ _ _ _; rw [HNL.out]; exact HE.out
            subst hk'
            go_wp2_with fail
            go_roundw
            case rel => exact ⟨i + 1, S2, C2, by go_num, hlt, HE4, HS3⟩
            case measure => simp [intOf]; omega
      · obtain ⟨hex1, hex2⟩ := HERR.out he
        have hkx0 : BK.length = 0 := by rw [hex1]; rfl
        have e0 : (er == 0) = false := by simp [he]
        obtain rfl : 0 = kx := by omega
        subst hex2
        clear HERR hex1
        have HSB : Hid (SumInv l L NL 0 S C) := HSI.out.begin
        clear HSI
        go_wp2_with fail
        obtain ⟨wo, rfl⟩ : ∃ wo : World, wo = w3 := ⟨_, rfl⟩
        go_loopw [14] (fun v14 wx => ∃ (k : Nat) (S : List Int) (C : List Bool), v14 = .int .i64 k ∧ k ≤ n ∧ Hid (EndM w wx g gs gc NL S C) ∧ Hid (OwnRecs MeanE wx Bk 46 lx 0 BK) ∧ Hid (SumInv l L NL k S C)) (fun v14 _ => n - (intOf v14).toNat)
        case atStart => exact ⟨0, S, C, rfl, Nat.zero_le _, HE3, HX3, HSB⟩
        case round =>
          clear HE3 HX3 HSB
          obtain ⟨k, S2, C2, rfl, hk, HE, HX, HSI⟩ := hrel
          by_cases hkl : k < n
          · have hsl : S2.length = n := by rw [HSI.out.slen]; exact hlen
            have hcl : C2.length = n := by rw [HSI.out.clen]; exact hlen
            obtain ⟨b2, o2, rfl, d0, d1⟩ := Means.at (HM.out.below HE.out.below) k hkl
            obtain ⟨hsk, hck⟩ := HSI.out.at (k := k) (by omega)
            have hst := HST.out (nm l k) (HNM.out k (by omega))
            have hgd := HGL.out.le k (by omega)
            have hofl := of_nonneg HGG.out (nm l k)
            obtain ⟨u, hu⟩ : ∃ u, nm l k = u := ⟨_, rfl⟩
            have HU := Lib.hid hu
            rw [hu] at hsk hck hst d0 hofl
            clear hu
            have ho := of_any lx 0 cx BK u wr HX.out.recs (by omega)
            obtain ⟨n1, hn1⟩ : ∃ n1, ofS BK u = n1 := ⟨_, rfl⟩
            have hsum := hst.sum
            have hn0 := hst.lo
            have hl0 := hst.lo'
            have hgone := hst.gone
            rw [hn1] at ho hsum hn0
            have HO1 := Lib.hid ho
            obtain ⟨s1, hs1⟩ : ∃ s1, ix S2 k = s1 := ⟨_, rfl⟩
            rw [hs1] at hsk
            have q0 := HE.out.sums.cell k (by omega)
            rw [hs1] at q0
            have f0 := HE.out.sums.free k
            have p0 := HE.out.mark.cell k (by omega)
            have HLB : Hid (ofS L u ≤ am l k) := by
              have h1 := HLA.out k (by omega)
              rw [of_at HGL.out.diff k (by omega), HU.out] at h1
              exact h1
            have hlb := HLB.out
            obtain ⟨am0, ham⟩ : ∃ am0, am l k = am0 := ⟨_, rfl⟩
            have HAM := Lib.hid ham
            rw [ham] at hsk hgd hlb
            obtain ⟨ofL, hofL⟩ : ∃ ofL, ofS L u = ofL := ⟨_, rfl⟩
            rw [hofL] at hsk hck hsum hlb hofl
            obtain ⟨ofN, hofN⟩ : ∃ ofN, ofS NL u = ofN := ⟨_, rfl⟩
            have HOFN := Lib.hid hofN
            rw [hofN] at hsum hl0 hgone
            have hs1b : 0 ≤ s1 ∧ s1 ≤ 1000000000 := by omega
            have hn1b : 0 ≤ n1 ∧ n1 ≤ 1000000000 := by split at hsum <;> omega
            have HSK := Lib.hid hsk
            have HSUM := Lib.hid hsum
            clear hn1 hs1 hst ho ham hofL hofN d1 hsk hsum
            go_wp2_with fail
            refine HO1.out.mono ?_
            rintro e w4 ⟨rfl, rfl⟩
            go_upto_region 19 with fail
            go_cut [91] (fun v91 wx => v91 = .bool false ∧ wr = wx)
            case first =>
              cases hb : bx C2 k
              · rw [hb] at p0
                go_wp2_with fail
                go_meet
                case rel => exact ⟨rfl, rfl⟩
              · rw [hb] at p0
                have h0 := hck hb
                have E3 : Hid (n1 = 0) := by
                  show _ = _
                  have hsum := HSUM.out
                  split at hsum <;> omega
                clear h0
                go_wp2_with fail
                go_meet
                case rel => exact ⟨by simp [E3.out], rfl⟩
            case rest =>
              obtain ⟨rfl, rfl⟩ := hcut
              have HEa := Lib.hid (HE.out.putS hggs hgsc k (by omega) (s1 + n1))
              have HXa := Lib.hid (HX.out.grown (grown_setCell wr gs k (.int .i64 (s1 + n1))) (by omega))
              have hb1 : -1 ≤ s1 + n1 ∧ s1 + n1 ≤ 2000000001 := by omega
              go_upto_region 22 with fail
              generalize wr.setCell ⟨gs, k, none⟩ (.int .i64 (s1 + n1)) = w5 at *
              clear q0 f0 p0 d0 HE HX HO1
              obtain ⟨b3, o3, e3, c0, c1⟩ := OpsAt.at (HO.out.below HEa.out.below) i hlt
              obtain ⟨b4, o4, e4, d0, d1⟩ := Means.at (HM.out.below HEa.out.below) k hkl
              simp only [Option.some.injEq, Addr.mk.injEq, and_true] at e3 e4
              obtain ⟨rfl, rfl⟩ := e3
              obtain ⟨rfl, rfl⟩ := e4
              rw [HOT.out] at c1
              rw [HU.out] at d0
              have HNX : Hid (¬(er = 0 ∧ t = u) → SumInv l L NL (k + 1) (S2.set k (s1 + n1)) C2) := fun hc => by
                have hsum := HSUM.out
                have hsk := HSK.out
                rw [if_neg hc] at hsum
                refine HSI.out.next (by omega) ?_ ?_
                · rw [HU.out, HOFN.out, HAM.out]; omega
                · rw [HU.out, HOFN.out]; intro h; have := hck h; omega
              have hsl2 : (S2.set k (s1 + n1)).length = n := by rw [List.length_set]; exact hsl
              have HS3 := Lib.hid (HNX.out (fun h => he h.1))
              clear HNX hgone HST
              go_wp2_with fail
              go_quiet (fail)
              go_wp2_with fail
              go_roundw
              case rel => exact ⟨k + 1, _, _, by go_num, by omega, HEa.out.drewN nq, HXa.out.below (below_drewN (Below.refl _ _) nq), HS3⟩
              case measure => simp [intOf]; omega
          · have hk' : k = n := by omega
            have HS3 : Hid (SumInv l (doN l ops (i + 1)) [] 0 S2 C2) := by show SumInv _ _ _ _ _ _; rw [HNL.out]; exact HSI.out.finish (by omega)
            have HE4 : Hid (EndM w wr g gs gc (doN l ops (i + 1)) S2 C2) := by show EndM _ _ _ _ _ _ _ _; rw [HNL.out]; exact HE.out
            subst hk'
            go_wp2_with fail
            go_roundw
            case rel => exact ⟨i + 1, S2, C2, by go_num, hlt, HE4, HS3⟩
            case measure => simp [intOf]; omega
    · have hi' : i = m := by omega
      subst hi'
      have HGG := Lib.hid (HG.out i)
      have HLA := Lib.hid (fun k (hk : k < l.length) => (doN_of HGL.out ops (nm l k) (HNM.out k hk) i))
      generalize doN l ops i = L at *
      have hs := HGG.out.sum
      have HPos : Hid (∀ i, i < L.length → 0 ≤ am L i ∧ am L i ≤ 1000000000) := fun i hi => by have := HGG.out.le i hi; omega
      have hsl : S.length = n := by rw [HSI.out.slen]; exact hlen
      go_wp2_with fail
      refine (left_any w.heap.size g L wr HE.out.ref (by omega)).mono ?_
      rintro e w4 ⟨ll, kl, cl, rfl, _, hb4, ho4⟩
      have hkl := ho4.1
      have HE4 := Lib.hid (HE.out.keep hb4)
      have HL4 := Lib.hid ho4.recs
      clear hb4 ho4 HE hdl2
      go_wp2_with fail
      go_loopw [17] (fun v17 wx => ∃ k : Nat, v17 = .int .i64 k ∧ k ≤ n ∧ ∃ q, wx = w4.drewN q) (fun v17 _ => n - (intOf v17).toNat)
      case atStart => exact ⟨0, rfl, Nat.zero_le _, 0, rfl⟩
      case round =>
        obtain ⟨k, rfl, hk, q, rfl⟩ := hrel
        have HE5 := Lib.hid (HE4.out.drewN q)
        have HL5 := Lib.hid (HL4.out.drewN q)
        generalize hw : w4.drewN q = wq at *
        have HWQ := Lib.hid hw
        clear hw
        by_cases hkn : k < n
        · obtain ⟨b2, o2, rfl, d0, d1⟩ := Means.at (HM.out.below HE5.out.below) k hkn
          have hsk := HSI.out.sum k (by omega)
          rw [if_neg (by omega)] at hsk
          have HOF2 : Hid (∀ q', Calls Tryd.prog 22 #[.slice ll kl cl, .string (bs (nm l k))] (wq.drewN q') fun e w' => e = .returned (.int .i64 (ofS L (nm l k))) ∧ w' = wq.drewN q') := fun q' =>
            (of_any ll kl cl L (nm l k) (wq.drewN q') (HL5.out.drewN q') (by omega)).mono fun e w' ⟨h1, h2⟩ => ⟨h1, h2.symm⟩
          have q0 := HE5.out.sums.cell k (by omega)
          have hgd := HGL.out.le k (by omega)
          have h1 := of_nonneg HGG.out (nm l k)
          have HLB : Hid (ofS L (nm l k) ≤ am l k) := by
            have h1 := HLA.out k (by omega)
            rw [of_at HGL.out.diff k (by omega)] at h1
            exact h1
          have hlb := HLB.out
          obtain ⟨s1, hs1⟩ : ∃ s1, ix S k = s1 := ⟨_, rfl⟩
          rw [hs1] at hsk q0
          obtain ⟨n1, hn1⟩ : ∃ n1, ofS L (nm l k) = n1 := ⟨_, rfl⟩
          rw [hn1] at HOF2 hsk h1 hlb
          have t1 : (s1 + n1 == am l k) = true := by simp; omega
          have hbb : -1 ≤ s1 ∧ s1 ≤ 1000000000 := by omega
          have hbb2 : n1 ≤ 1000000000 := by omega
          clear hs1 hn1 hsk hlb
          go_wp2_with fail
          go_quiet (exact Calls.quiet_of_same (HOF2.out _))
          go_wp2_with fail
          go_roundw
          case rel => exact ⟨k + 1, by go_num, by omega, q + nq, by rw [← HWQ.out, World.drewN_drewN]⟩
          case measure => simp [intOf]; omega
        · go_wp2_with fail
          refine (rtotal_any ll kl cl L wq HL5.out (by omega) (fun i hi => HPos.out i (by omega))).mono ?_
          rintro e w6 ⟨rfl, rfl⟩
          go_wp2_with fail
          refine (back_any w.heap.size g L (totS L) wq HE5.out.ref HGG.out (by omega)).mono ?_
          rintro e w6 ⟨lb, kb, cb, rfl, hg6, ho6, ha6⟩
          rw [back_whole HGG.out] at ho6 ⊢
          rw [left_whole HGG.out] at ha6
          have hkb : L.length = kb := ho6.1
          have HB6 := Lib.hid (below_grown HE5.out.below hg6 hgl.1)
          have HL6 := Lib.hid (HL5.out.farA HE5.out.ref hg6)
          have HO6 : Hid (Means w6 lb kb L) := ho6.recs
          have HA6 := Lib.hid ha6
          clear hg6 ho6 ha6
          go_wp2_with fail
          refine (same_yes lb ll kb kl cb cl L w6 HO6.out HL6.out (by omega) (by omega)).mono ?_
          rintro e w7 ⟨rfl, hb7⟩
          have HB7 := Lib.hid (HB6.out.trans (hb7.mono HB6.out.size))
          have HA7 := Lib.hid (HA6.out.below hb7)
          clear hb7
          go_wp2_with fail
          refine (left_any w.heap.size g [] w7 HA7.out (by decide)).mono ?_
          rintro e w8 ⟨l8, k8, c8, rfl, _, hb8, ho8⟩
          obtain rfl : 0 = k8 := ho8.1
          have HB8 := Lib.hid (HB7.out.trans (hb8.mono HB7.out.size))
          clear hb8 ho8
          go_wp2_with fail
          go_ret
          exact ⟨rfl, HB8.out⟩
end Go.Proofs.YtgpmhaeiccljaaaDoor
