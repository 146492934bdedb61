/- hold: foyerlaw26.head, the walk; hold: beside another Holds. -/
import Derived.Test.YtkdbenoleendcaaGreatDoorQHMB34

namespace Go.Proofs.YtkdbenoleendcaaGreatDoor
open Go.RowKit Go.IntWalk Go.Maps Go.WideMaps

section
variable {w wx : World} {g M sb : Nat} {st : St}
theorem hd_take (H : Hd w wx g M sb st) (hsp : st.sp.length ≤ 4000) (hl : st.last ≤ 1000) (t : NmT) (L : List Int) (c : Nat) (til cls : Int) {r : (Int × Int) × St} (hex : takeS st (nameS t) t L til cls = r) (hL : L.length ≤ 4000) (ht : t.length ≤ 1000) :
    Calls Tryz.prog 22 #[.pointer (some ⟨g, 0, none⟩), .string (bs t), .slice (some ⟨wx.heap.size, 0, none⟩) L.length c, .int .i64 til, .int .i64 cls] (wx.alloc (.cells ((L.map (Value.int .i64)).toArray) 3)) fun e w' =>
      e = .returned (.tuple #[.int .i64 r.1.1, .int .i64 r.1.2]) ∧ Hd w w' g M sb r.2 ∧ Upd (Own3 g M sb) wx w' := by
  have hb := Joins.below_alloc1 wx (.cells ((L.map (Value.int .i64)).toArray) 3)
  have H1 := H.next hb
  have := hs_take H1.hs hsp hl t L (some ⟨wx.heap.size, 0, none⟩) L.length c til cls hL ht (row_own (row_new wx L) H1.hs)
  rw [hex] at this
  exact this.mono fun e w' ⟨h1, h2, h3⟩ => ⟨h1, H1.step h2 h3, (Upd.of_below hb).trans h3⟩

theorem hd_swap (H : Hd w wx g M sb st) (hsp : st.sp.length ≤ 4000) (hl : st.last ≤ 1000) (id : Int) (hw : (Lit.int .i64 id).wf = true) (L : List Int) (c : Nat) {r : Int × St} (hex : swapS st id L = r) (hL : L.length ≤ 4000) :
    Calls Tryz.prog 23 #[.pointer (some ⟨g, 0, none⟩), .int .i64 id, .slice (some ⟨wx.heap.size, 0, none⟩) L.length c] (wx.alloc (.cells ((L.map (Value.int .i64)).toArray) 3)) fun e w' =>
      e = .returned (.int .i64 r.1) ∧ Hd w w' g M sb r.2 ∧ Upd (Own3 g M sb) wx w' := by
  have hb := Joins.below_alloc1 wx (.cells ((L.map (Value.int .i64)).toArray) 3)
  have H1 := H.next hb
  have := hs_swap H1.hs hsp hl id hw L (some ⟨wx.heap.size, 0, none⟩) L.length c hL (row_own (row_new wx L) H1.hs)
  rw [hex] at this
  exact this.mono fun e w' ⟨h1, h2, h3⟩ => ⟨h1, H1.step h2 h3, (Upd.of_below hb).trans h3⟩

theorem ints_new (w : World) (L : List Int) : Ints (w.alloc (.cells ((L.map (Value.int .i64)).toArray) 3)) (some ⟨w.heap.size, 0, none⟩) L.length L := (row_new w L).ints
end

theorem second_at {w : World} {la : Option Addr} {lc : Nat} {x1 x2 : HoldT} (h : HRow w (.slice la 2 lc) [x1, x2]) : ∃ b o pa pc, la = some ⟨b, o, none⟩ ∧ w.cell? ⟨b, o + 6 + 3, none⟩ = some (.slice pa x2.2.2.1.length pc) ∧ w.cell? ⟨b, o + 6 + 5, none⟩ = some (.int .i64 x2.2.2.2.2) ∧ Ints w pa x2.2.2.1.length x2.2.2.1 := by
  obtain ⟨E, la', c', e, hE, hr, hp, _⟩ := h
  have hl : E.length = 2 := by have := congrArg List.length hE; simpa using this
  obtain ⟨b, rfl, r⟩ := hr (by omega)
  simp only [Value.slice.injEq] at e
  obtain ⟨rfl, _, _⟩ := e
  have hx : E[1].1 = x2 := by
    have : (E.map (·.1))[1]? = some x2 := by rw [hE]; rfl
    rw [List.getElem?_map, List.getElem?_eq_getElem (by omega)] at this
    simpa using this
  have c3 := r.cell 1 3 (by omega) (by omega)
  have c5 := r.cell 1 5 (by omega) (by omega)
  rw [rc_eq _ _ (by omega)] at c3 c5
  obtain ⟨bp, ep, _, hir⟩ := hp E[1] (List.getElem_mem (by omega))
  have hI := hir.ints
  have c3' : w.cell? ⟨b, 9, none⟩ = some (.slice E[1].2.1 E[1].1.2.2.1.length E[1].2.2) := c3
  have c5' : w.cell? ⟨b, 11, none⟩ = some (.int .i64 E[1].1.2.2.2.2) := c5
  rw [ep] at c3'
  rw [hx] at c3' c5' hI
  exact ⟨b, 0, _, _, rfl, c3', c5', hI⟩

set_option maxRecDepth 100000 in
set_option maxHeartbeats 6400000 in
theorem head_any (w : World) : Calls Tryz.prog 4 #[] w fun e w' => e = .returned (.bool true) ∧ Below w.heap.size w w' := by
  go_enter Tryz.func4, Tryz.ntmps4
  go_wp2_with fail
  refine (hs_new w 5 (by omega)).mono ?_
  rintro e w1 ⟨g, M, sb, rfl, hb, hh, hown⟩
  have H1 : Hid (Hd w w1 g M sb (newS 5)) := ⟨hb, hh, hown⟩
  clear hb hh hown
  go_wp2_with fail
  refine (hd_take H1.out (by decide) (by decide) nmAnn [0, 1] 2 10 0 ex1 (by decide) (by decide)).mono ?_
  rintro e w2 ⟨rfl, h2, _⟩
  have H2 := Lib.hid h2
  clear h2 H1
  go_wp2_with fail
  refine (hd_take H2.out (by decide) (by decide) nmBob [1, 2] 2 20 0 ex1b (by decide) (by decide)).mono ?_
  rintro e w3 ⟨rfl, h3, _⟩
  have H3 := Lib.hid h3
  clear h3 H2
  go_wp2_with fail
  refine (hd_take H3.out (by decide) (by decide) nmBob [2] 1 20 3 ex2 (by decide) (by decide)).mono ?_
  rintro e w4 ⟨rfl, h4, _⟩
  have H4 := Lib.hid h4
  clear h4 H3
  go_wp2_with fail
  refine (hd_swap H4.out (by decide) (by decide) 2 (by decide) [3, 4] 2 ex3 (by decide)).mono ?_
  rintro e w5 ⟨rfl, h5, _⟩
  have H5 := Lib.hid h5
  clear h5 H4
  go_wp2_with fail
  refine (hs_list H5.out.hs (by decide)).mono ?_
  rintro e w6 ⟨vl, rfl, hb6, _, hr6⟩
  have H6 := Lib.hid (H5.out.next hb6)
  have R6 := Lib.hid hr6
  obtain ⟨E, la, lc, rfl, hE, _⟩ := hr6
  have hE2 : E.length = 2 := by have := congrArg List.length hE; simpa [sX3] using this
  rw [hE2] at R6 ⊢
  clear hb6 H5
  go_wp2_with fail
  have HX := Lib.hid (hs_expire H6.out.hs (by decide) 11)
  rw [ex4] at HX
  refine HX.out.mono ?_
  rintro e w7 ⟨vg, rfl, hg7, hh7, hu7⟩
  have H7 := Lib.hid (H6.out.step hh7 hu7)
  have R7 := Lib.hid (R6.out.keep H6.out.hs hu7)
  have G7 := Lib.hid hg7
  clear hg7 hh7 hu7 HX H6 R6
  go_wp2_with fail
  refine (hd_take H7.out (by decide) (by decide) nmCarl [0] 1 30 0 ex5 (by decide) (by decide)).mono ?_
  rintro e w8 ⟨rfl, h8, hu8⟩
  have H8 := Lib.hid h8
  have R8 := Lib.hid (R7.out.keep H7.out.hs hu8)
  have G8 := Lib.hid (G7.out.keep H7.out.hs hu8)
  clear h8 hu8 H7 R7 G7
  go_wp2_with fail
  have HX := Lib.hid (hs_sell H8.out.hs 3 (by decide))
  rw [ex6] at HX
  refine HX.out.mono ?_
  rintro e w9 ⟨vs, rfl, hg9, hh9, hu9⟩
  have H9 := Lib.hid (H8.out.step hh9 hu9)
  have R9 := Lib.hid (R8.out.keep H8.out.hs hu9)
  have G9 := Lib.hid (G8.out.keep H8.out.hs hu9)
  have S9 := Lib.hid hg9
  clear hg9 hh9 hu9 HX H8 R8 G8
  go_wp2_with fail
  have HX := Lib.hid (hs_free H9.out.hs 0)
  rw [ex7] at HX
  refine HX.out.mono ?_
  rintro e w10 ⟨rfl, hh, hu⟩
  have H10 := Lib.hid (H9.out.step hh hu)
  have R10 := Lib.hid (R9.out.keep H9.out.hs hu)
  have G10 := Lib.hid (G9.out.keep H9.out.hs hu)
  have S10 := Lib.hid (S9.out.keep H9.out.hs hu)
  clear hh hu HX H9 R9 G9 S9
  go_wp2_with fail
  have HX := Lib.hid (hs_free H10.out.hs 0)
  rw [ex7b] at HX
  refine HX.out.mono ?_
  rintro e w11 ⟨rfl, hh, hu⟩
  have H11 := Lib.hid (H10.out.step hh hu)
  have R11 := Lib.hid (R10.out.keep H10.out.hs hu)
  have G11 := Lib.hid (G10.out.keep H10.out.hs hu)
  have S11 := Lib.hid (S10.out.keep H10.out.hs hu)
  clear hh hu HX H10 R10 G10 S10
  go_wp2_with fail
  refine (hs_spaces H11.out.hs (by decide)).mono ?_
  rintro e w12 ⟨vp, rfl, hb, hh, hr⟩
  have H12 := Lib.hid (H11.out.next hb)
  have R12 := Lib.hid (R11.out.below hb)
  have G12 := Lib.hid (G11.out.below hb)
  have S12 := Lib.hid (S11.out.below hb)
  obtain ⟨lp, pc, rfl, hrp⟩ := hr.recs
  have P12 : Hid (Recs SpE w12 lp 5 sX7.sp) := hrp
  rw [show sX7.sp.length = 5 from rfl]
  clear hb hh hr hrp H11 R11 G11 S11
  have HN := Lib.hid (new_any w12 TT (-1))
  go_wp2_with fail
  refine HN.out.mono ?_
  rintro e w13 ⟨hb, he⟩
  rw [if_neg (by omega)] at he
  subst he
  have H13 := Lib.hid (H12.out.next hb)
  have R13 := Lib.hid (R12.out.below hb)
  have G13 := Lib.hid (G12.out.below hb)
  have S13 := Lib.hid (S12.out.below hb)
  have P13 := Lib.hid (P12.out.below hb)
  clear hb HN H12 R12 G12 S12 P12
  go_wp2_with fail
  refine (sell_nil 1 w13).mono ?_
  rintro e w14 ⟨rfl, hb⟩
  have HB14 : Hid (Below w.heap.size w w14) := (H13.out.next hb).below
  have R14 := Lib.hid (R13.out.below hb)
  have G14 := Lib.hid (G13.out.below hb)
  have S14 := Lib.hid (S13.out.below hb)
  have P14 := Lib.hid (P13.out.below hb)
  clear hb H13 R13 G13 S13 P13
  obtain ⟨bl, ol, pa, pc2, rfl, l3, l5, HI0⟩ := second_at R14.out
  have HI := Lib.hid HI0
  obtain ⟨ga, gc, rfl, HG0⟩ := G14.out.ints
  have HG := Lib.hid HG0
  obtain ⟨sa, sc, rfl, HS0⟩ := S14.out.ints
  have HS := Lib.hid HS0
  obtain ⟨bp, op, rfl, _, _⟩ := sp_at2 P14.out 0 (by omega)
  have HP0 : Hid (∀ wx, Below w14.heap.size w14 wx → (wx.cell? ⟨bp, op, none⟩ = some (.int .i64 0) ∧ wx.cell? ⟨bp, op + 1, none⟩ = some (.int .i64 0)) ∧ wx.cell? ⟨bp, op + 6, none⟩ = some (.int .i64 1) ∧ wx.cell? ⟨bp, op + 7, none⟩ = some (.int .i64 2)) := fun wx hb => by
    obtain ⟨b, o, e, x0, x1⟩ := sp_at2 (P14.out.below hb) 0 (by omega)
    cases e
    obtain ⟨b, o, e, y0, y1⟩ := sp_at2 (P14.out.below hb) 3 (by omega)
    cases e
    exact ⟨⟨x0, x1⟩, y0, y1⟩
  dsimp only at l3 l5
  have HL5 := Lib.hid l5
  clear HI0 HG0 HS0 R14 G14 S14 P14 l5
  go_wp2_with fail
  have hb1 := Joins.below_alloc1 w14 (.cells #[.int .i64 3, .int .i64 4] 3)
  refine (ints_any pa (some ⟨w14.heap.size, 0, none⟩) 2 pc2 2 2 [3, 4] [3, 4] _ (HI.out.below hb1) (ints_new w14 [3, 4]) (by omega) (by omega)).mono ?_
  rintro e w15 ⟨rfl, hq⟩
  have hb15 : Below w14.heap.size w14 w15 := hb1.trans (hq.below.mono hb1.size)
  have HB15 := Lib.hid hb15
  have l5 := Below.cell_of hb15 HL5.out
  have hd1 : decide (([3, 4] : List Int) = [3, 4]) = true := by decide
  clear hb1 hq hb15 l3
  go_wp2_with fail
  have hb1 := Joins.below_alloc1 w15 (.cells #[.int .i64 1] 3)
  refine (ints_any ga (some ⟨w15.heap.size, 0, none⟩) 1 gc 1 1 [1] [1] _ (HG.out.below (HB15.out.trans (hb1.mono HB15.out.size))) (ints_new w15 [1]) (by omega) (by omega)).mono ?_
  rintro e w16 ⟨rfl, hq⟩
  have hb16 : Below w15.heap.size w15 w16 := hb1.trans (hq.below.mono hb1.size)
  have HB16 : Hid (Below w14.heap.size w14 w16) := HB15.out.trans (hb16.mono HB15.out.size)
  have hd2 : decide (([1] : List Int) = [1]) = true := by decide
  clear hb1 hq hb16 l5
  go_wp2_with fail
  have hb1 := Joins.below_alloc1 w16 (.cells #[.int .i64 0] 3)
  refine (ints_any sa (some ⟨w16.heap.size, 0, none⟩) 1 sc 1 1 [0] [0] _ (HS.out.below (HB16.out.trans (hb1.mono HB16.out.size))) (ints_new w16 [0]) (by omega) (by omega)).mono ?_
  rintro e w17 ⟨rfl, hq⟩
  have hb17 : Below w16.heap.size w16 w17 := hb1.trans (hq.below.mono hb1.size)
  have HB17 : Hid (Below w14.heap.size w14 w17) := HB16.out.trans (hb17.mono HB16.out.size)
  have hd3 : decide (([0] : List Int) = [0]) = true := by decide
  have hp := HP0.out w17 HB17.out
  obtain ⟨⟨x0, x1⟩, y0, y1⟩ := hp
  clear hb1 hq hb17
  go_wp2_with fail
  go_ret
  exact ⟨rfl, HB14.out.trans (HB17.out.mono HB14.out.size)⟩
end Go.Proofs.YtkdbenoleendcaaGreatDoor

namespace Go.Proofs.YtkdbenoleendcaaGreatDoor
open Go.RowKit Go.IntWalk Go.Maps Go.WideMaps

theorem Hd.other {w wx w' : World} {g M sb g2 M2 sb2 : Nat} {st st2 : St} (h : Hd w wx g M sb st) (k : HS wx g2 M2 sb2 st2) (hu : Upd (Own3 g2 M2 sb2) wx w') (hd : ∀ i, Own3 g M sb i → ¬ Own3 g2 M2 sb2 i) (ho : ∀ i, Own3 g2 M2 sb2 i → w.heap.size ≤ i) : Hd w w' g M sb st :=
  ⟨Upd.below h.below hu ho, h.hs.other k hu hd, h.own⟩

end Go.Proofs.YtkdbenoleendcaaGreatDoor
