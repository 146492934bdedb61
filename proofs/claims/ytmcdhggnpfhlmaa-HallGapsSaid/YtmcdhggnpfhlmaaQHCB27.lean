/- hall: several$2: the walk; hall: several: a row's places are taken. -/
import Derived.Test.YtmcdhggnpfhlmaaQHCB21

namespace Go.Proofs.Ytmcdhggnpfhlmaa
open Go.RowKit Go.IntWalk Go.Maps Go.WideMaps
set_option linter.unusedSimpArgs false
set_option linter.unusedVariables false

set_option maxRecDepth 100000 in
set_option maxHeartbeats 16000000 in
theorem spot_any (w0 : World) (l : LevR) (r : RowR) (gr gO gM gR gB gl M : Nat) (ra : Option Addr) (nr rc : Nat) (w : World) (O : List Int) (G : PtT → List Int) (bl : Bool) (N : Nat) (s x : Int) (h : Sev w0 l r gr gO gM gR gB gl M ra nr rc w O G bl N)
    (hl : l.In w0) (hx : WfP (x, r.y)) (hN : N < 1000000) (hO : O.length + (G (x, r.y)).length ≤ 1000000) (hG : (G (x, r.y)).length < 1000000) (hnr : nr ≤ 1000000) :
    Calls Try.prog 57 #[.int .i64 s, .int .i64 x, .pointer (some ⟨gr, 0, none⟩), .pointer (some ⟨gO, 0, none⟩), .pointer (some ⟨gM, 0, none⟩), .pointer (some ⟨gR, 0, none⟩), .pointer (some ⟨gB, 0, none⟩), .pointer (some ⟨gl, 0, none⟩)] w
      fun e w' => e = .returned (.tuple #[]) ∧ Sev w0 l r gr gO gM gR gB gl M ra nr rc w' (O ++ G (x, r.y)) (fun q => if q = (x, r.y) then G q ++ [(nr : Int)] else G q) (bl || ((l.pillars.any fun b => insideB b x r.y) || (l.aisles.any fun b => insideB b x r.y))) (N + 1) ∧ KUpd (SevT gB M) w w' := by
  obtain ⟨v, f, h⟩ := h
  have HS := Lib.hid h
  have HL := Lib.hid hl
  have HV : Hid (∀ b, v.ownBlock = some b → b < w.heap.size) := fun b e => (h.orow.lt b e).2
  have HFB : Hid (∀ p b, (f p).ownBlock = some b → b < w.heap.size) := fun p b e => h.tak.lt p e
  clear h hl
  refine enter_fr (N := 44) [.int .i64 s, .int .i64 x, .pointer (some ⟨gr, 0, none⟩), .pointer (some ⟨gO, 0, none⟩), .pointer (some ⟨gM, 0, none⟩), .pointer (some ⟨gR, 0, none⟩), .pointer (some ⟨gB, 0, none⟩), .pointer (some ⟨gl, 0, none⟩)] (Try.func57) rfl Try.ntmps57 (by rfl) (fun a hF => ?_);replace hF := hF.kp [1, 2, 3, 4, 5, 6, 7] rfl;refine wp_seq_k (fun K hK => ?_);refine region_seq (l := [0]) (by kernel_rfl) ?_;refine seq_one ?_;refine ze1 1 rfl rfl rfl hF rfl rfl ?_;clear hF;refine fun a hF => ?_;refine seq_end ?_;replace hF := hF.kp [2, 3, 4, 5, 6, 7, 9] rfl;refine hK _ _ ?_;clear hK;(try clear K)
  have HBa := Lib.hid (Joins.below_alloc1 w (.cells #[.int .i64 x] 3))
  have HX : Hid ((w.alloc (.cells #[.int .i64 x] 3)).heap[w.heap.size]? = some (.cells #[.int .i64 x] 3 (0, 0))) := World.alloc_heap_new w _
  have HS1 := Lib.hid (HS.out.down HBa.out)
  have HK1 : Hid (KUpd (SevT gB M) w (w.alloc (.cells #[.int .i64 x] 3))) := KUpd.of_below HBa.out
  clear HS HBa
  generalize w.alloc (.cells #[.int .i64 x] 3) = w1 at *
  obtain ⟨gx, hgx⟩ : ∃ gx, gx = w.heap.size := ⟨_, rfl⟩
  rw [← hgx] at hF HX
  have HGX := Lib.hid hgx
  clear hgx
  have c0 : w1.cell? ⟨gx, 0, none⟩ = some (.int .i64 x) := boxed_cell (j := 0) HX.out rfl
  obtain ⟨_, _, c1, _, _, _, _, _⟩ := HS1.out.row.cells
  refine wp_seq_k (fun K hK => ?_);refine region_sk [0, 1, 2, 3] [4, 5] hF fun C hC => ?_;clear hF;refine zs1 9 rfl rfl ?_;refine zs1 2 rfl rfl ?_;refine zs1 13 rfl rfl ?_;refine zs2 12 14 rfl rfl rfl ?_;refine hC _ (fun a hF => ?_);clear hC C;refine seq_one ?_;refine ze0 rfl rfl rfl hF rfl ?_;clear hF;refine fun a hF => ?_;refine seq_one ?_;refine zu2 10 15 rfl rfl hF rfl rfl rfl ?_;clear hF;refine fun a hF => ?_;refine seq_end ?_;replace hF := hF.kp [2, 3, 4, 5, 6, 7, 9, 10] rfl;refine hK _ _ ?_;clear hK;(try clear K)
  have HBa := Lib.hid (Joins.below_alloc1 w1 (.cells #[.int .i64 x, .int .i64 r.y] 23))
  have HP : Hid ((w1.alloc (.cells #[.int .i64 x, .int .i64 r.y] 23)).heap[w1.heap.size]? = some (.cells #[.int .i64 x, .int .i64 r.y] 23 (0, 0))) := World.alloc_heap_new w1 _
  have HS2 := Lib.hid (HS1.out.down HBa.out)
  have HX2 := Lib.hid ((HBa.out.block gx (lt_of_block HX.out)).trans HX.out)
  have HK2 : Hid (KUpd (SevT gB M) w (w1.alloc (.cells #[.int .i64 x, .int .i64 r.y] 23))) := HK1.out.trans (KUpd.of_below HBa.out)
  clear HS1 HBa HX HK1 c0 c1
  generalize w1.alloc (.cells #[.int .i64 x, .int .i64 r.y] 23) = w2 at *
  obtain ⟨gp, hgp⟩ : ∃ gp, gp = w1.heap.size := ⟨_, rfl⟩
  rw [← hgp] at hF HP
  clear hgp
  have HS3 := Lib.hid (HS2.out.down (below_d (Below.refl _ _)))
  have HX3 : Hid (w2.drew.heap[gx]? = some (.cells #[.int .i64 x] 3 (0, 0))) := HX2.out
  have HP3 : Hid (w2.drew.heap[gp]? = some (.cells #[.int .i64 x, .int .i64 r.y] 23 (0, 0))) := HP.out
  have HK3 : Hid (KUpd (SevT gB M) w w2.drew) := HK2.out.trans (KUpd.of_below (below_d (Below.refl _ _)))
  clear HS2 HX2 HK2 HP
  have d0 : w2.drew.cell? ⟨gO, 0, none⟩ = some v := boxed_cell (j := 0) HS3.out.ov rfl
  have d1 : w2.drew.cell? ⟨gM, 0, none⟩ = some (.map (some M)) := boxed_cell (j := 0) HS3.out.mv rfl
  have d2 : w2.drew.cell? ⟨gp, 0, none⟩ = some (.int .i64 x) := boxed_cell (j := 0) HP3.out rfl
  have d3 : w2.drew.cell? ⟨gp, 1, none⟩ = some (.int .i64 r.y) := boxed_cell (j := 1) HP3.out rfl
  have hlk := HS3.out.tak.look (x, r.y) hx
  unfold ptV at hlk
  have hro := HS3.out.orow
  rw [← flat_int] at hro
  have hru : Rcs IntE w2.drew (f (x, r.y)) (G (x, r.y)) := Rcs.of_own (by rw [flat_int]; exact HS3.out.tak.rows (x, r.y))
  obtain ⟨v', w4, hAPP, ho4, hg4, hob4⟩ := append_recs (E := IntE) 102 3 102 Try.underlying102 info_int rfl (by decide) hro hru hO HS3.out.below.size
  obtain ⟨la4, lc4, rfl, _⟩ := OwnRecs.of_row ho4
  rw [flat_int] at ho4
  have hlen4 : O.length + (G (x, r.y)).length = (O ++ G (x, r.y)).length := by simp
  have HO4 := Lib.hid (grown_keep HS3.out.orow hg4 HS3.out.ov (by decide) (arr := []))
  have HS5 := Lib.hid (HS3.out.app (O' := O ++ G (x, r.y)) hg4 (by rw [← hlen4]; exact ho4) hob4)
  have HP5 := Lib.hid (set_keep (u := (.slice la4 (O.length + (G (x, r.y)).length) lc4)) (o := 0) HO4.out (grown_keep HS3.out.orow hg4 HP3.out (by decide) (arr := [])) (by decide))
  have HKg : Hid (KUpd (SevT gB M) w2.drew w4) := KUpd.of_grown hg4 fun b o e hb => by
    obtain ⟨cur, hh⟩ := own_type HS3.out.orow e
    rw [hb] at hh
    cases hh
    exact Or.inr (Or.inr ⟨_, _, _, rfl, Or.inl rfl⟩)
  have HK5 : Hid (KUpd (SevT gB M) w (w4.setCell ⟨gO, 0, none⟩ (.slice la4 (O.length + (G (x, r.y)).length) lc4))) := (HK3.out.trans HKg.out).trans (KUpd.of_set HO4.out (Or.inr (Or.inr ⟨_, _, _, rfl, Or.inr rfl⟩)))
  have HX5 : Hid ((w4.setCell ⟨gO, 0, none⟩ (.slice la4 (O.length + (G (x, r.y)).length) lc4)).heap[gx]? = some (.cells #[.int .i64 x] 3 (0, 0))) :=
    set_keep HO4.out ((hg4.block gx (lt_of_block HX3.out) (fun e => by have := HV.out gx e.symm; have := HGX.out; omega)).trans HX3.out) (by decide)
  have e0 : w4.cell? ⟨gO, 0, none⟩ = some v := boxed_cell (j := 0) HO4.out rfl
  have e1 := free_var (o := 0) HO4.out
  clear hro hru ho4 hg4 hob4 HKg hlen4
  refine wp_seq_k (fun K hK => ?_);refine region_any (by kernel_rfl) ?_;refine any_chain (fuel := 2) [(0, true), (1, true), (2, true), (3, true)] [4, 5] rfl (by kernel_rfl) (by kernel_rfl) hF (fun _ _ d _ _ h => by cases d <;> exact h) (fun C hC => ?_);clear hF;refine zs1 3 rfl rfl ?_;refine zs1 4 rfl rfl ?_;refine zs1 10 rfl rfl ?_;refine zs2 17 18 rfl rfl rfl ?_;refine hC _ (fun a hF => ?_);clear hC C
  clear HS3 HX3 HP3 HK3
  refine any_one (n := 4) (fuel := 1) (by kernel_rfl) ?_;refine op_append rfl rfl rfl rfl rfl hF rfl rfl rfl hAPP (fun a hF => ?_);clear hAPP;refine any_one (n := 5) (fuel := 0) (by kernel_rfl) ?_;refine zu2 3 20 rfl rfl hF rfl rfl rfl ?_;clear hF;refine fun a hF => ?_;refine any_end (by kernel_rfl) ?_;replace hF := hF.kp [2, 4, 5, 6, 7, 9, 10] rfl;refine hK _ _ ?_;clear hK;(try clear K)
  clear d0 d1 d2 d3 hlk e0 e1 HO4
  generalize w4.setCell ⟨gO, 0, none⟩ (.slice la4 (O.length + (G (x, r.y)).length) lc4) = w5 at *
  have d1 : w5.cell? ⟨gM, 0, none⟩ = some (.map (some M)) := boxed_cell (j := 0) HS5.out.mv rfl
  have d2 : w5.cell? ⟨gp, 0, none⟩ = some (.int .i64 x) := boxed_cell (j := 0) HP5.out rfl
  have d3 : w5.cell? ⟨gp, 1, none⟩ = some (.int .i64 r.y) := boxed_cell (j := 1) HP5.out rfl
  have d4 : w5.cell? ⟨gR, 0, none⟩ = some (.slice ra nr rc) := boxed_cell (j := 0) HS5.out.rv rfl
  refine wp_seq_k (fun K hK => ?_);refine region_sk [0, 1, 2, 3] [4, 5, 6, 7, 8, 9] hF fun C hC => ?_;clear hF;refine zs1 4 rfl rfl ?_;refine zs1 10 rfl rfl ?_;refine zs1 5 rfl rfl ?_;refine zs1 24 rfl rfl ?_;refine hC _ (fun a hF => ?_);clear hC C;refine seq_one ?_;refine ze1 25 rfl rfl rfl hF rfl rfl ?_;clear hF;refine fun a hF => ?_
  have HBa := Lib.hid (Joins.below_alloc1 w5 (.cells #[.int .i64 nr] 3))
  have hns : (w5.alloc (.cells #[.int .i64 nr] 3)).heap[w5.heap.size]? = some (.cells #[.int .i64 nr] 3 (0, 0)) := World.alloc_heap_new w5 _
  have HS6 := Lib.hid (HS5.out.down HBa.out)
  have HX6 := Lib.hid ((HBa.out.block gx (lt_of_block HX5.out)).trans HX5.out)
  have HK6 : Hid (KUpd (SevT gB M) w (w5.alloc (.cells #[.int .i64 nr] 3))) := HK5.out.trans (KUpd.of_below HBa.out)
  clear HS5 HX5 HK5 HP5 HBa d1 d2 d3 d4
  generalize w5.alloc (.cells #[.int .i64 nr] 3) = w6 at *
  obtain ⟨gs, hgs⟩ : ∃ gs, gs = w5.heap.size := ⟨_, rfl⟩
  rw [← hgs] at hF hns
  clear hgs
  obtain ⟨st, w7, v2, w8, w9, hME, hAPP, hES, ⟨f2, hT2, hf2⟩, q1, q2, q3, q4, q5⟩ := HS6.out.tak.pushed (x, r.y) hx (by unfold maxLen; omega) gs nr hns hG HS6.out.below.size 102
  have HS9 := Lib.hid (HS6.out.psh hT2 hf2 q1 q2 q3 q4 q5)
  obtain ⟨es, cl, hMb⟩ := HS6.out.tak.blk
  have HX9 := Lib.hid ((q5 gx (lt_of_block HX6.out) (fun e => by have := HX6.out; rw [e, hMb] at this; cases this) (fun e => by have := HFB.out _ gx e; have := HGX.out; omega)).trans HX6.out)
  have HK9 : Hid (KUpd (SevT gB M) w w9) := HK6.out.trans ⟨q1, q2, q3, q4, fun b o hb hS => by
    refine (q5 b (lt_of_block hb) (fun e => hS (Or.inr (Or.inl e))) (fun e => ?_)).trans hb
    obtain ⟨cur, hh⟩ := own_type (HS6.out.tak.rows (x, r.y)) e
    rw [hb] at hh
    cases hh
    exact hS (Or.inr (Or.inr ⟨_, _, _, rfl, Or.inl rfl⟩))⟩
  clear HS6 HX6 HK6 hT2 hf2 q1 q2 q3 q4 q5 hns hMb
  generalize goInt st = sv at hME hES
  dsimp only at hME
  refine seq_one ?_;refine ze2 21 22 rfl rfl rfl hF rfl rfl rfl ?_;clear hF;refine fun a hF => ?_
  clear hME
  refine seq_ck [6] [7, 8, 9] hF fun C hC => ?_;clear hF;refine zs1 27 rfl rfl ?_;refine hC _ (fun a hF => ?_);clear hC C;refine seq_one ?_;refine op_append rfl rfl rfl rfl rfl hF rfl rfl rfl hAPP (fun a hF => ?_);clear hAPP;refine seq_ck [8] [9] hF fun C hC => ?_;clear hF;refine zs1 27 rfl rfl ?_;refine hC _ (fun a hF => ?_);clear hC C;refine seq_one ?_;refine zu3 21 28 29 rfl rfl hF rfl rfl rfl rfl ?_;clear hF;refine fun a hF => ?_
  clear hES
  refine seq_end ?_;replace hF := hF.kp [2, 6, 7, 9] rfl;refine hK _ _ ?_;clear hK;(try clear K);refine wp_seq_k (fun K hK => ?_);refine region_sk [0, 1] [] hF fun C hC => ?_;clear hF;refine zs2 2 9 rfl rfl rfl ?_;refine za rfl rfl rfl ?_;refine hC _ (fun a hF => ?_);clear hC C;refine seq_end ?_;replace hF := hF.kp [6, 7, 11] rfl;refine hK _ _ ?_;clear hK;(try clear K)
  have c0 : w9.cell? ⟨gx, 0, none⟩ = some (.int .i64 x) := boxed_cell (j := 0) HX9.out rfl
  obtain ⟨_, _, c2, _, _, _, _, _⟩ := HS9.out.row.cells
  have cb : w9.cell? ⟨gB, 0, none⟩ = some (.bool bl) := boxed_cell (j := 0) HS9.out.bv rfl
  have fb := free_var (o := 0) HS9.out.bv
  have HKB : Hid (∀ wx b2, SevF w0 l r gr gO gM gR gB gl M ra nr rc wx (O ++ G (x, r.y)) (fun q => if q = (x, r.y) then G q ++ [(nr : Int)] else G q) bl (N + 1) (.slice la4 (O.length + (G (x, r.y)).length) lc4) f2 → KUpd (SevT gB M) w wx → KUpd (SevT gB M) w (wx.setCell ⟨gB, 0, none⟩ (.bool b2))) := fun wx b2 h1 h2 => h2.trans (KUpd.of_set h1.bv (Or.inl rfl))
  cases bl
  · obtain ⟨_, _, _, _, l4, l5, _, _⟩ := HS9.out.lev.cells
    refine region_sk [0, 1, 2, 3, 4] [5, 6, 7, 8, 9, 10, 11, 12, 13] hF fun C hC => ?_;clear hF;refine zs1 6 rfl rfl ?_;refine zm rfl rfl rfl ?_;refine zs1 7 rfl rfl ?_;refine zs1 33 rfl rfl ?_;refine zm rfl rfl rfl ?_;refine hC _ (fun a hF => ?_);clear hC C;refine seq_one ?_;refine op_call [_, _] rfl rfl hF rfl (by kernel_rfl) ⟨rfl, rfl, trivial⟩ (fun K hK => ?_);clear hF
    refine (contains_box w9 l.pa l.pn l.pc l.pillars (HL.out.pillars.below HS9.out.below) HL.out.pn 58 [.pointer (some ⟨gx, 0, none⟩), .pointer (some ⟨gr, 0, none⟩)] (fun b => insideB b x r.y) (by kernel_rfl) (fun wx hb i hi => hit_any wx l.pillars[i] gx gr x r.y (Below.cell_of hb c0) (Below.cell_of hb c2))).mono ?_
    rintro e w10 ⟨rfl, hb10⟩
    have HS10 := Lib.hid (HS9.out.down hb10)
    have HK10 : Hid (KUpd (SevT gB M) w w10) := HK9.out.trans (KUpd.of_below hb10)
    have c0 := Below.cell_of hb10 c0
    have c2 := Below.cell_of hb10 c2
    clear cb fb l4 l5 HS9 HK9 hb10 HX9
    have cb : w10.cell? ⟨gB, 0, none⟩ = some (.bool false) := boxed_cell (j := 0) HS10.out.bv rfl
    have fb := free_var (o := 0) HS10.out.bv
    obtain ⟨_, _, _, _, l4, l5, _, _⟩ := HS10.out.lev.cells
    obtain ⟨y, hy⟩ : ∃ y, (l.pillars.any fun b => insideB b x r.y) = y := ⟨_, rfl⟩
    have HY := Lib.hid hy
    rw [hy]
    clear hy
    cases y
    · refine hK _ _ (fun a hF => ?_);clear hK K;refine seq_ck [6, 7, 8, 9, 10] [11, 12, 13] hF fun C hC => ?_;clear hF;refine zs2 32 36 rfl rfl rfl ?_;refine zm rfl rfl rfl ?_;refine zs1 7 rfl rfl ?_;refine zs1 39 rfl rfl ?_;refine zm rfl rfl rfl ?_;refine hC _ (fun a hF => ?_);clear hC C;refine seq_one ?_;refine op_call [_, _] rfl rfl hF rfl (by kernel_rfl) ⟨rfl, rfl, trivial⟩ (fun K hK => ?_);clear hF
      refine (contains_box w10 l.sa l.sn l.sc l.aisles (HL.out.aisles.below HS10.out.below) HL.out.sn 58 [.pointer (some ⟨gx, 0, none⟩), .pointer (some ⟨gr, 0, none⟩)] (fun b => insideB b x r.y) (by kernel_rfl) (fun wx hb i hi => hit_any wx l.aisles[i] gx gr x r.y (Below.cell_of hb c0) (Below.cell_of hb c2))).mono ?_
      rintro e w11 ⟨rfl, hb11⟩
      have HS11 := Lib.hid (HS10.out.down hb11)
      have HK11 : Hid (KUpd (SevT gB M) w w11) := HK10.out.trans (KUpd.of_below hb11)
      clear c0 c2 cb fb l4 l5 HS10 HK10 hb11
      have cb : w11.cell? ⟨gB, 0, none⟩ = some (.bool false) := boxed_cell (j := 0) HS11.out.bv rfl
      have fb := free_var (o := 0) HS11.out.bv
      obtain ⟨z, hz⟩ : ∃ z, (l.aisles.any fun b => insideB b x r.y) = z := ⟨_, rfl⟩
      have HZ := Lib.hid hz
      rw [hz]
      clear hz
      refine hK _ _ (fun a hF => ?_);clear hK K;refine seq_ck [12] [13] hF fun C hC => ?_;clear hF;refine zs2 38 42 rfl rfl rfl ?_;refine hC _ (fun a hF => ?_);clear hC C;refine seq_one ?_;refine zu2 6 43 rfl rfl hF rfl rfl rfl ?_;clear hF;refine fun a hF => ?_;refine seq_end ?_;replace hF := hF.kp [] rfl;(try simp only [then_exit, block_exit, block_norm, goto_norm, ↓reduceIte, Nat.reduceEqDiff]);refine end_fr (fn := Try.f57) (rs := []) rfl [] hF trivial ?_
      exact ⟨rfl, ⟨(.slice la4 (O.length + (G (x, r.y)).length) lc4), f2, by rw [HY.out, HZ.out]; exact HS11.out.blk z⟩, HKB.out w11 z HS11.out HK11.out⟩
    · refine hK _ _ (fun a hF => ?_);clear hK K;refine seq_ck [6, 7, 8, 9, 10, 11, 12] [13] hF fun C hC => ?_;clear hF;refine zs2 32 36 rfl rfl rfl ?_;refine zm rfl rfl rfl ?_;refine zx rfl ?_;refine zx rfl ?_;refine zx rfl ?_;refine zx rfl ?_;refine zs2 38 42 rfl rfl rfl ?_;refine hC _ (fun a hF => ?_);clear hC C;refine seq_one ?_;refine zu2 6 43 rfl rfl hF rfl rfl rfl ?_;clear hF;refine fun a hF => ?_;refine seq_end ?_;replace hF := hF.kp [] rfl;(try simp only [then_exit, block_exit, block_norm, goto_norm, ↓reduceIte, Nat.reduceEqDiff]);refine end_fr (fn := Try.f57) (rs := []) rfl [] hF trivial ?_
      exact ⟨rfl, ⟨(.slice la4 (O.length + (G (x, r.y)).length) lc4), f2, by rw [HY.out]; exact HS10.out.blk true⟩, HKB.out w10 true HS10.out HK10.out⟩
  · refine region_sk [0, 1, 2, 3, 4, 5, 6, 7, 8, 9, 10, 11, 12] [13] hF fun C hC => ?_;clear hF;refine zs1 6 rfl rfl ?_;refine zm rfl rfl rfl ?_;refine zx rfl ?_;refine zx rfl ?_;refine zx rfl ?_;refine zx rfl ?_;refine zs2 32 36 rfl rfl rfl ?_;refine zm rfl rfl rfl ?_;refine zx rfl ?_;refine zx rfl ?_;refine zx rfl ?_;refine zx rfl ?_;refine zs2 38 42 rfl rfl rfl ?_;refine hC _ (fun a hF => ?_);clear hC C;refine seq_one ?_;refine zu2 6 43 rfl rfl hF rfl rfl rfl ?_;clear hF;refine fun a hF => ?_;refine seq_end ?_;replace hF := hF.kp [] rfl;(try simp only [then_exit, block_exit, block_norm, goto_norm, ↓reduceIte, Nat.reduceEqDiff]);refine end_fr (fn := Try.f57) (rs := []) rfl [] hF trivial ?_
    exact ⟨rfl, ⟨(.slice la4 (O.length + (G (x, r.y)).length) lc4), f2, HS9.out.blk true⟩, HKB.out w9 true HS9.out HK9.out⟩
end Go.Proofs.Ytmcdhggnpfhlmaa

namespace Go.Proofs.Ytmcdhggnpfhlmaa
open Go.RowKit Go.IntWalk Go.Maps Go.WideMaps
set_option linter.unusedSimpArgs false
set_option linter.unusedVariables false

theorem seat_range {r : RowR} (hok : RowOk r) {p : Int × Int} (h : p ∈ seatsS r) : r.fr ≤ p.1 ∧ p.1 ≤ r.to ∧ 0 ≤ p.2 ∧ p.2 ≤ 10000 := by
  unfold seatsS at h
  obtain ⟨i, hi, rfl⟩ := List.mem_map.1 (List.mem_filter.1 h).1
  have hi2 : i < spanS r.fr r.to := by simpa using hi
  have hsp : (spanS r.fr r.to : Int) = r.to - r.fr + 1 := by
    have := hok.ft
    unfold spanS
    omega
  have hst := hok.st
  have hx := hok.cx
  have hp0 : 0 ≤ (i : Int) * r.step := Int.mul_nonneg (by omega) (by omega)
  refine ⟨by show r.fr ≤ r.fr + (i : Int); omega, by show r.fr + (i : Int) ≤ r.to; omega, by show 0 ≤ r.x + (i : Int) * r.step; omega, ?_⟩
  show r.x + (i : Int) * r.step ≤ 10000
  by_cases hf : r.fr < r.to
  · obtain ⟨q1, q2⟩ := hok.far hf
    have : (i : Int) * r.step ≤ (r.to - r.fr) * r.step := Int.mul_le_mul_of_nonneg_right (by omega) (by omega)
    omega
  · have hi0 : i = 0 := by omega
    subst hi0
    simp
    exact hx.2
theorem seats_len {r : RowR} (hok : RowOk r) : (seatsS r).length ≤ 60 := by
  unfold seatsS
  refine Nat.le_trans (List.length_filter_le _ _) ?_
  rw [List.length_map, List.length_range]
  have := hok.few
  unfold spanS
  omega
theorem wf_i64 {n : Int} (h1 : -9223372036854775808 ≤ n) (h2 : n ≤ 9223372036854775807) : (Lit.int .i64 n).wf = true := by
  show (decide _ && decide _) = true
  rw [Bool.and_eq_true]
  exact ⟨decide_eq_true h1, decide_eq_true h2⟩

theorem RowK.of_kupd {gB M : Nat} {w w' : World} {bl : Bool} {es : Array MapEntry} {c : Nat} (hB : w.heap[gB]? = some (.cells #[.bool bl] 4 (0, 0))) (hM : w.heap[M]? = some (.map es c)) (hu : KUpd (SevT gB M) w w') : RowK w w' := fun b arr x hb => hu.block b _ hb (by
  rintro (rfl | rfl | ⟨A, T, y, e, h⟩)
  · rw [hB] at hb; cases hb
  · rw [hM] at hb; cases hb
  · cases e
    rcases h with h | h <;> exact absurd h (by decide))

theorem spots_any (w0 : World) (l : LevR) (r : RowR) (gr gO gM gR gB gl M : Nat) (ra : Option Addr) (rc : Nat) (w : World) (rows : List RowR) (N : Nat) (h : Sev w0 l r gr gO gM gR gB gl M ra rows.length rc w [] (gAt rows) false N)
    (hl : l.In w0) (hr : r.In w0) (hok : RowOk r) (hN : N ≤ 900000) (hrw : rows.length ≤ 10000) :
    Calls Try.prog 26 #[.agg #[.string (bs r.name), .int .i64 r.x, .int .i64 r.y, .int .i64 r.fr, .int .i64 r.to, .int .i64 r.step, .slice r.ma r.mn r.mc, .int .i64 r.at'], .func (.func 57) #[] #[.pointer (some ⟨gr, 0, none⟩), .pointer (some ⟨gO, 0, none⟩), .pointer (some ⟨gM, 0, none⟩), .pointer (some ⟨gR, 0, none⟩), .pointer (some ⟨gB, 0, none⟩), .pointer (some ⟨gl, 0, none⟩)]] w
      fun e w' => e = .returned (.tuple #[]) ∧ Sev w0 l r gr gO gM gR gB gl M ra rows.length rc w' (othS rows r.y (seatsS r)) (gAt (rows ++ [r])) (blockedB l r) (N + (seatsS r).length) ∧ KUpd (SevT gB M) w w' := by
  rw [gAt_next]
  refine seats_any w r hok 57 [.pointer (some ⟨gr, 0, none⟩), .pointer (some ⟨gO, 0, none⟩), .pointer (some ⟨gM, 0, none⟩), .pointer (some ⟨gR, 0, none⟩), .pointer (some ⟨gB, 0, none⟩), .pointer (some ⟨gl, 0, none⟩)] (by kernel_rfl)
    (fun lst wx => Sev w0 l r gr gO gM gR gB gl M ra rows.length rc wx (othS rows r.y lst) (gAtP rows r.y lst) (lst.any fun p => (l.pillars.any fun b => insideB b p.2 r.y) || (l.aisles.any fun b => insideB b p.2 r.y)) (N + lst.length) ∧ KUpd (SevT gB M) w wx) ?_ ?_ ?_ ⟨by rw [gAtP_nil]; exact h, KUpd.refl _ _⟩
  · rintro lst wx ⟨⟨v, f, hs⟩, _⟩
    exact hr.below hs.below
  · rintro lst wx w' ⟨⟨v, f, hs⟩, hk⟩ hb
    exact ⟨⟨v, f, hs.down hb⟩, hk.trans (KUpd.of_below hb)⟩
  · rintro lst p hp wx ⟨hs, hk⟩
    have hpm : p ∈ seatsS r := hp.subset (by simp)
    obtain ⟨_, _, h3, h4⟩ := seat_range hok hpm
    have hll : lst.length + 1 ≤ 60 := by
      have := hp.length_le
      have := seats_len hok
      rw [List.length_append] at *
      simp at *
      omega
    have hlo := othS_le rows r.y lst
    have hlg := gAt_le rows (p.2, r.y)
    have hlm : lst.length * rows.length ≤ 60 * 10000 := Nat.mul_le_mul (by omega) hrw
    have hgp := gAtP_at (rows := rows) hok hp
    have hcy := hok.cy
    refine (spot_any w0 l r gr gO gM gR gB gl M ra rows.length rc wx _ _ _ _ p.1 p.2 hs hl ⟨wf_i64 (by omega) (by omega), wf_i64 (by show _ ≤ r.y; omega) (by show r.y ≤ _; omega)⟩ (by omega) (by rw [hgp]; omega) (by rw [hgp]; omega) (by omega)).mono ?_
    rintro e w' ⟨rfl, h5, h6⟩
    obtain ⟨v, f, hsf⟩ := hs
    obtain ⟨es, c, hM⟩ := hsf.tak.blk
    refine ⟨rfl, ⟨?_, hk.trans h6⟩, RowK.of_kupd hsf.bv hM h6⟩
    rw [hgp] at h5
    rw [othS_next, gAtP_next rows hok hp, List.any_append, List.length_append]
    simpa [← Nat.add_assoc] using h5
end Go.Proofs.Ytmcdhggnpfhlmaa
