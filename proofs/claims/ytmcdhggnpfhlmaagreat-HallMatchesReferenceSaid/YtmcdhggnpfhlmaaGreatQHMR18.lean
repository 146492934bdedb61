/- hall: several$2: the walk; hall: several: a row's places are taken; hall: places: a row's places as a list; with what each goes: plain. -/
import Derived.Test.YtmcdhggnpfhlmaaGreatQHMR13
import Derived.Test.YtmcdhggnpfhlmaaGreatQHMR17

set_option linter.unusedVariables false
set_option linter.unusedSimpArgs false
namespace Go.Proofs.YtmcdhggnpfhlmaaGreat
open Go.RowKit Go.IntWalk Go.Maps Go.WideMaps
set_option linter.unusedSimpArgs false
set_option linter.unusedVariables false

set_option maxRecDepth 100000 in
set_option maxHeartbeats 16000000 in
theorem spot_any (w0 : World) (l : LevR) (r : RowR) (gr gO gM gR gB gl M : Nat) (ra : Option Addr) (nr rc : Nat) (w : World) (O : List Int) (G : PtT → List Int) (bl : Bool) (N : Nat) (s x : Int) (h : Sev w0 l r gr gO gM gR gB gl M ra nr rc w O G bl N)
  (hl : l.In w0) (hx : WfP (x, r.y)) (hN : N < 1000000) (hO : O.length + (G (x, r.y)).length ≤ 1000000) (hG : (G (x, r.y)).length < 1000000) (hnr : nr ≤ 1000000) :
  Calls Tryz.prog 55 #[.int .i64 s, .int .i64 x, .pointer (some ⟨gr, 0, none⟩), .pointer (some ⟨gO, 0, none⟩), .pointer (some ⟨gM, 0, none⟩), .pointer (some ⟨gR, 0, none⟩), .pointer (some ⟨gB, 0, none⟩), .pointer (some ⟨gl, 0, none⟩)] w
   fun e w' => e = .returned (.tuple #[]) ∧ Sev w0 l r gr gO gM gR gB gl M ra nr rc w' (O ++ G (x, r.y)) (fun q => if q = (x, r.y) then G q ++ [(nr : Int)] else G q) (bl || ((l.pillars.any fun b => insideB b x r.y) || (l.aisles.any fun b => insideB b x r.y))) (N + 1) ∧ KUpd (SevT gB M) w w' := by
 obtain ⟨v, f, h⟩ := h
 have HS := Lib.hid h
 have HL := Lib.hid hl
 have HV : Hid (∀ b, v.ownBlock = some b → b < w.heap.size) := fun b e => (h.orow.lt b e).2
 have HFB : Hid (∀ p b, (f p).ownBlock = some b → b < w.heap.size) := fun p b e => h.tak.lt p e
 clear h hl
 refine enter_fr (N := 44) [.int .i64 s, .int .i64 x, .pointer (some ⟨gr, 0, none⟩), .pointer (some ⟨gO, 0, none⟩), .pointer (some ⟨gM, 0, none⟩), .pointer (some ⟨gR, 0, none⟩), .pointer (some ⟨gB, 0, none⟩), .pointer (some ⟨gl, 0, none⟩)] (Tryz.func55) rfl Tryz.ntmps55 (by rfl) (fun a hF => ?_);replace hF := hF.kp [1, 2, 3, 4, 5, 6, 7] rfl;refine wp_seq_k (fun K hK => ?_);refine region_seq (l := [0]) (by kernel_rfl) ?_;refine seq_one ?_;revert hF;refine qe1 fun a hF => ?_;refine seq_end ?_;replace hF := hF.kp [2, 3, 4, 5, 6, 7, 9] rfl;refine hK _ _ ?_;clear hK
 have HBa := Lib.hid (Joins.below_alloc1 w (.cells #[.int .i64 x] 3))
 have HX : Hid ((w.alloc (.cells #[.int .i64 x] 3)).heap[w.heap.size]? = some (.cells #[.int .i64 x] 3 (0, 0))) := World.alloc_heap_new w _
 have HS1 := Lib.hid (HS.out.down HBa.out)
 have HK1 : Hid (KUpd (SevT gB M) w (w.alloc (.cells #[.int .i64 x] 3))) := KUpd.of_below HBa.out
 clear HS HBa
 generalize w.alloc (.cells #[.int .i64 x] 3) = w1 at *
 obtain ⟨gx, hgx⟩ : ∃ gx, gx = w.heap.size := ⟨_, rfl⟩
 rw [← hgx] at hF HX
 have HGX := Lib.hid hgx
 clear hgx
 have c0 : w1.cell? ⟨gx, 0, none⟩ = some (.int .i64 x) := boxed_cell (j := 0) HX.out rfl
 obtain ⟨_, _, c1, _, _, _, _, _⟩ := HS1.out.row.cells
 refine wp_seq_k (fun K hK => ?_);revert hF;refine zrp [4, 4, 4, 5] [4, 5] fun a hF => ?_;refine seq_one ?_;revert hF;refine qe0 fun a hF => ?_;refine seq_one ?_;revert hF;refine qu2 fun a hF => ?_;refine seq_end ?_;replace hF := hF.kp [2, 3, 4, 5, 6, 7, 9, 10] rfl;refine hK _ _ ?_;clear hK
 have HBa := Lib.hid (Joins.below_alloc1 w1 (.cells #[.int .i64 x, .int .i64 r.y] 23))
 have HP : Hid ((w1.alloc (.cells #[.int .i64 x, .int .i64 r.y] 23)).heap[w1.heap.size]? = some (.cells #[.int .i64 x, .int .i64 r.y] 23 (0, 0))) := World.alloc_heap_new w1 _
 have HS2 := Lib.hid (HS1.out.down HBa.out)
 have HX2 := Lib.hid ((HBa.out.block gx (lt_of_block HX.out)).trans HX.out)
 have HK2 : Hid (KUpd (SevT gB M) w (w1.alloc (.cells #[.int .i64 x, .int .i64 r.y] 23))) := HK1.out.trans (KUpd.of_below HBa.out)
 clear HS1 HBa HX HK1 c0 c1
 generalize w1.alloc (.cells #[.int .i64 x, .int .i64 r.y] 23) = w2 at *
 obtain ⟨gp, hgp⟩ : ∃ gp, gp = w1.heap.size := ⟨_, rfl⟩
 rw [← hgp] at hF HP
 clear hgp
 have HS3 := Lib.hid (HS2.out.down (below_d (Below.refl _ _)))
 have HX3 : Hid (w2.drew.heap[gx]? = some (.cells #[.int .i64 x] 3 (0, 0))) := HX2.out
 have HP3 : Hid (w2.drew.heap[gp]? = some (.cells #[.int .i64 x, .int .i64 r.y] 23 (0, 0))) := HP.out
 have HK3 : Hid (KUpd (SevT gB M) w w2.drew) := HK2.out.trans (KUpd.of_below (below_d (Below.refl _ _)))
 clear HS2 HX2 HK2 HP
 have d0 : w2.drew.cell? ⟨gO, 0, none⟩ = some v := boxed_cell (j := 0) HS3.out.ov rfl
 have d1 : w2.drew.cell? ⟨gM, 0, none⟩ = some (.map (some M)) := boxed_cell (j := 0) HS3.out.mv rfl
 have d2 : w2.drew.cell? ⟨gp, 0, none⟩ = some (.int .i64 x) := boxed_cell (j := 0) HP3.out rfl
 have d3 : w2.drew.cell? ⟨gp, 1, none⟩ = some (.int .i64 r.y) := boxed_cell (j := 1) HP3.out rfl
 have hlk := HS3.out.tak.look (x, r.y) hx
 unfold ptV at hlk
 have hro := HS3.out.orow
 rw [← flat_int] at hro
 have hru : Rcs IntE w2.drew (f (x, r.y)) (G (x, r.y)) := Rcs.of_own (by rw [flat_int]; exact HS3.out.tak.rows (x, r.y))
 obtain ⟨v', w4, hAPP, ho4, hg4, hob4⟩ := append_recs (E := IntE) 97 3 97 Tryz.underlying97 info_int rfl (by decide) hro hru hO HS3.out.below.size
 obtain ⟨la4, lc4, rfl, _⟩ := OwnRecs.of_row ho4
 rw [flat_int] at ho4
 have hlen4 : O.length + (G (x, r.y)).length = (O ++ G (x, r.y)).length := by simp
 have HO4 := Lib.hid (grown_keep HS3.out.orow hg4 HS3.out.ov (by decide) (arr := []))
 have HS5 := Lib.hid (HS3.out.app (O' := O ++ G (x, r.y)) hg4 (by rw [← hlen4]; exact ho4) hob4)
 have HP5 := Lib.hid (set_keep (u := (.slice la4 (O.length + (G (x, r.y)).length) lc4)) (o := 0) HO4.out (grown_keep HS3.out.orow hg4 HP3.out (by decide) (arr := [])) (by decide))
 have HKg : Hid (KUpd (SevT gB M) w2.drew w4) := KUpd.of_grown hg4 fun b o e hb => by
  obtain ⟨cur, hh⟩ := own_type HS3.out.orow e
  rw [hb] at hh
  cases hh
  exact Or.inr (Or.inr ⟨_, _, _, rfl, Or.inl rfl⟩)
 have HK5 : Hid (KUpd (SevT gB M) w (w4.setCell ⟨gO, 0, none⟩ (.slice la4 (O.length + (G (x, r.y)).length) lc4))) := (HK3.out.trans HKg.out).trans (KUpd.of_set HO4.out (Or.inr (Or.inr ⟨_, _, _, rfl, Or.inr rfl⟩)))
 have HX5 : Hid ((w4.setCell ⟨gO, 0, none⟩ (.slice la4 (O.length + (G (x, r.y)).length) lc4)).heap[gx]? = some (.cells #[.int .i64 x] 3 (0, 0))) :=
  set_keep HO4.out ((hg4.block gx (lt_of_block HX3.out) (fun e => by have := HV.out gx e.symm; have := HGX.out; omega)).trans HX3.out) (by decide)
 have e0 : w4.cell? ⟨gO, 0, none⟩ = some v := boxed_cell (j := 0) HO4.out rfl
 have e1 := free_var (o := 0) HO4.out
 clear hro hru ho4 hg4 hob4 HKg hlen4
 refine wp_seq_k (fun K hK => ?_);refine region_any (by kernel_rfl) ?_;revert hF;refine zra (fuel := 2) [20, 52, 84, 117] [4, 5] fun a hF => ?_
 clear HS3 HX3 HP3 HK3
 refine any_one (n := 4) (fuel := 1) (by kernel_rfl) ?_;refine op_append rfl rfl rfl rfl rfl hF rfl rfl rfl hAPP (fun a hF => ?_);clear hAPP;refine any_one (n := 5) (fuel := 0) (by kernel_rfl) ?_;revert hF;refine qu2 fun a hF => ?_;refine any_end (by kernel_rfl) ?_;replace hF := hF.kp [2, 4, 5, 6, 7, 9, 10] rfl;refine hK _ _ ?_;clear hK
 clear d0 d1 d2 d3 hlk e0 e1 HO4
 generalize w4.setCell ⟨gO, 0, none⟩ (.slice la4 (O.length + (G (x, r.y)).length) lc4) = w5 at *
 have d1 : w5.cell? ⟨gM, 0, none⟩ = some (.map (some M)) := boxed_cell (j := 0) HS5.out.mv rfl
 have d2 : w5.cell? ⟨gp, 0, none⟩ = some (.int .i64 x) := boxed_cell (j := 0) HP5.out rfl
 have d3 : w5.cell? ⟨gp, 1, none⟩ = some (.int .i64 r.y) := boxed_cell (j := 1) HP5.out rfl
 have d4 : w5.cell? ⟨gR, 0, none⟩ = some (.slice ra nr rc) := boxed_cell (j := 0) HS5.out.rv rfl
 refine wp_seq_k (fun K hK => ?_);revert hF;refine zrp [4, 4, 4, 4] [4, 5, 6, 7, 8, 9] fun a hF => ?_;refine seq_one ?_;revert hF;refine qe1 fun a hF => ?_
 have HBa := Lib.hid (Joins.below_alloc1 w5 (.cells #[.int .i64 nr] 3))
 have hns : (w5.alloc (.cells #[.int .i64 nr] 3)).heap[w5.heap.size]? = some (.cells #[.int .i64 nr] 3 (0, 0)) := World.alloc_heap_new w5 _
 have HS6 := Lib.hid (HS5.out.down HBa.out)
 have HX6 := Lib.hid ((HBa.out.block gx (lt_of_block HX5.out)).trans HX5.out)
 have HK6 : Hid (KUpd (SevT gB M) w (w5.alloc (.cells #[.int .i64 nr] 3))) := HK5.out.trans (KUpd.of_below HBa.out)
 clear HS5 HX5 HK5 HP5 HBa d1 d2 d3 d4
 generalize w5.alloc (.cells #[.int .i64 nr] 3) = w6 at *
 obtain ⟨gs, hgs⟩ : ∃ gs, gs = w5.heap.size := ⟨_, rfl⟩
 rw [← hgs] at hF hns
 clear hgs
 obtain ⟨st, w7, v2, w8, w9, hME, hAPP, hES, ⟨f2, hT2, hf2⟩, q1, q2, q3, q4, q5⟩ := HS6.out.tak.pushed (x, r.y) hx (by unfold maxLen; omega) gs nr hns hG HS6.out.below.size 97
 have HS9 := Lib.hid (HS6.out.psh hT2 hf2 q1 q2 q3 q4 q5)
 obtain ⟨es, cl, hMb⟩ := HS6.out.tak.blk
 have HX9 := Lib.hid ((q5 gx (lt_of_block HX6.out) (fun e => by have := HX6.out; rw [e, hMb] at this; cases this) (fun e => by have := HFB.out _ gx e; have := HGX.out; omega)).trans HX6.out)
 have HK9 : Hid (KUpd (SevT gB M) w w9) := HK6.out.trans ⟨q1, q2, q3, q4, fun b o hb hS => by
  refine (q5 b (lt_of_block hb) (fun e => hS (Or.inr (Or.inl e))) (fun e => ?_)).trans hb
  obtain ⟨cur, hh⟩ := own_type (HS6.out.tak.rows (x, r.y)) e
  rw [hb] at hh
  cases hh
  exact hS (Or.inr (Or.inr ⟨_, _, _, rfl, Or.inl rfl⟩))⟩
 clear HS6 HX6 HK6 hT2 hf2 q1 q2 q3 q4 q5 hns hMb
 generalize goInt st = sv at hME hES
 dsimp only at hME
 refine seq_one ?_;revert hF;refine qe2 fun a hF => ?_
 clear hME
 revert hF;refine zrc 6 [4] [7, 8, 9] fun a hF => ?_;refine seq_one ?_;refine op_append rfl rfl rfl rfl rfl hF rfl rfl rfl hAPP (fun a hF => ?_);clear hAPP;revert hF;refine zrc 8 [4] [9] fun a hF => ?_;refine seq_one ?_;revert hF;refine qu3 fun a hF => ?_
 clear hES
 refine seq_end ?_;replace hF := hF.kp [2, 6, 7, 9] rfl;refine hK _ _ ?_;clear hK;revert hF;refine zrs [5, 2] [6, 7, 11] fun a hF => ?_
 have c0 : w9.cell? ⟨gx, 0, none⟩ = some (.int .i64 x) := boxed_cell (j := 0) HX9.out rfl
 obtain ⟨_, _, c2, _, _, _, _, _⟩ := HS9.out.row.cells
 have cb : w9.cell? ⟨gB, 0, none⟩ = some (.bool bl) := boxed_cell (j := 0) HS9.out.bv rfl
 have fb := free_var (o := 0) HS9.out.bv
 have HKB : Hid (∀ wx b2, SevF w0 l r gr gO gM gR gB gl M ra nr rc wx (O ++ G (x, r.y)) (fun q => if q = (x, r.y) then G q ++ [(nr : Int)] else G q) bl (N + 1) (.slice la4 (O.length + (G (x, r.y)).length) lc4) f2 → KUpd (SevT gB M) w wx → KUpd (SevT gB M) w (wx.setCell ⟨gB, 0, none⟩ (.bool b2))) := fun wx b2 h1 h2 => h2.trans (KUpd.of_set h1.bv (Or.inl rfl))
 cases bl
 ·
  obtain ⟨_, _, _, _, l4, l5, _, _⟩ := HS9.out.lev.cells
  revert hF;refine zrp [4, 1, 4, 4, 1] [5, 6, 7, 8, 9, 10, 11, 12, 13] fun a hF => ?_;revert hF;refine zos fun K hK => ?_
  refine (contains_box w9 l.pa l.pn l.pc l.pillars (HL.out.pillars.below HS9.out.below) HL.out.pn 56 [.pointer (some ⟨gx, 0, none⟩), .pointer (some ⟨gr, 0, none⟩)] (fun b => insideB b x r.y) (by kernel_rfl) (fun wx hb i hi => hit_any wx l.pillars[i] gx gr x r.y (Below.cell_of hb c0) (Below.cell_of hb c2))).mono ?_
  rintro e w10 ⟨rfl, hb10⟩
  have HS10 := Lib.hid (HS9.out.down hb10)
  have HK10 : Hid (KUpd (SevT gB M) w w10) := HK9.out.trans (KUpd.of_below hb10)
  have c0 := Below.cell_of hb10 c0
  have c2 := Below.cell_of hb10 c2
  clear cb fb l4 l5 HS9 HK9 hb10 HX9
  have cb : w10.cell? ⟨gB, 0, none⟩ = some (.bool false) := boxed_cell (j := 0) HS10.out.bv rfl
  have fb := free_var (o := 0) HS10.out.bv
  obtain ⟨_, _, _, _, l4, l5, _, _⟩ := HS10.out.lev.cells
  obtain ⟨y, hy⟩ : ∃ y, (l.pillars.any fun b => insideB b x r.y) = y := ⟨_, rfl⟩
  have HY := Lib.hid hy
  rw [hy]
  clear hy
  cases y
  ·
   refine hK _ _ (fun a hF => ?_);clear hK K;revert hF;refine zrc 6 [5, 1, 4, 4, 1] [11, 12, 13] fun a hF => ?_;revert hF;refine zos fun K hK => ?_
   refine (contains_box w10 l.sa l.sn l.sc l.aisles (HL.out.aisles.below HS10.out.below) HL.out.sn 56 [.pointer (some ⟨gx, 0, none⟩), .pointer (some ⟨gr, 0, none⟩)] (fun b => insideB b x r.y) (by kernel_rfl) (fun wx hb i hi => hit_any wx l.aisles[i] gx gr x r.y (Below.cell_of hb c0) (Below.cell_of hb c2))).mono ?_
   rintro e w11 ⟨rfl, hb11⟩
   have HS11 := Lib.hid (HS10.out.down hb11)
   have HK11 : Hid (KUpd (SevT gB M) w w11) := HK10.out.trans (KUpd.of_below hb11)
   clear c0 c2 cb fb l4 l5 HS10 HK10 hb11
   have cb : w11.cell? ⟨gB, 0, none⟩ = some (.bool false) := boxed_cell (j := 0) HS11.out.bv rfl
   have fb := free_var (o := 0) HS11.out.bv
   obtain ⟨z, hz⟩ : ∃ z, (l.aisles.any fun b => insideB b x r.y) = z := ⟨_, rfl⟩
   have HZ := Lib.hid hz
   rw [hz]
   clear hz
   refine hK _ _ (fun a hF => ?_);clear hK K;revert hF;refine zrc 12 [5] [13] fun a hF => ?_;refine seq_one ?_;revert hF;refine qu2 fun a hF => ?_;refine seq_end ?_;replace hF := hF.kp [] rfl;(try simp only [then_exit, block_exit, block_norm, goto_norm, ↓reduceIte, Nat.reduceEqDiff]);refine end_fr (fn := Tryz.f55) (rs := []) rfl [] hF trivial ?_
   exact ⟨rfl, ⟨(.slice la4 (O.length + (G (x, r.y)).length) lc4), f2, by rw [HY.out, HZ.out]; exact HS11.out.blk z⟩, HKB.out w11 z HS11.out HK11.out⟩
  ·
   refine hK _ _ (fun a hF => ?_);clear hK K;revert hF;refine zrc 6 [5, 1, 0, 0, 0, 0, 5] [13] fun a hF => ?_;refine seq_one ?_;revert hF;refine qu2 fun a hF => ?_;refine seq_end ?_;replace hF := hF.kp [] rfl;(try simp only [then_exit, block_exit, block_norm, goto_norm, ↓reduceIte, Nat.reduceEqDiff]);refine end_fr (fn := Tryz.f55) (rs := []) rfl [] hF trivial ?_
   exact ⟨rfl, ⟨(.slice la4 (O.length + (G (x, r.y)).length) lc4), f2, by rw [HY.out]; exact HS10.out.blk true⟩, HKB.out w10 true HS10.out HK10.out⟩
 ·
  revert hF;refine zrp [4, 1, 0, 0, 0, 0, 5, 1, 0, 0, 0, 0, 5] [13] fun a hF => ?_;refine seq_one ?_;revert hF;refine qu2 fun a hF => ?_;refine seq_end ?_;replace hF := hF.kp [] rfl;(try simp only [then_exit, block_exit, block_norm, goto_norm, ↓reduceIte, Nat.reduceEqDiff]);refine end_fr (fn := Tryz.f55) (rs := []) rfl [] hF trivial ?_
  exact ⟨rfl, ⟨(.slice la4 (O.length + (G (x, r.y)).length) lc4), f2, HS9.out.blk true⟩, HKB.out w9 true HS9.out HK9.out⟩
end Go.Proofs.YtmcdhggnpfhlmaaGreat

namespace Go.Proofs.YtmcdhggnpfhlmaaGreat
open Go.RowKit Go.IntWalk Go.Maps Go.WideMaps
set_option linter.unusedSimpArgs false
set_option linter.unusedVariables false

theorem seat_range {r : RowR} (hok : RowOk r) {p : Int × Int} (h : p ∈ seatsS r) : r.fr ≤ p.1 ∧ p.1 ≤ r.to ∧ 0 ≤ p.2 ∧ p.2 ≤ 10000 := by
 unfold seatsS at h
 obtain ⟨i, hi, rfl⟩ := List.mem_map.1 (List.mem_filter.1 h).1
 have hi2 : i < spanS r.fr r.to := by simpa using hi
 have hsp : (spanS r.fr r.to : Int) = r.to - r.fr + 1 := by
  have := hok.ft
  unfold spanS
  omega
 have hst := hok.st
 have hx := hok.cx
 have hp0 : 0 ≤ (i : Int) * r.step := Int.mul_nonneg (by omega) (by omega)
 refine ⟨by show r.fr ≤ r.fr + (i : Int); omega, by show r.fr + (i : Int) ≤ r.to; omega, by show 0 ≤ r.x + (i : Int) * r.step; omega, ?_⟩
 show r.x + (i : Int) * r.step ≤ 10000
 by_cases hf : r.fr < r.to
 ·
  obtain ⟨q1, q2⟩ := hok.far hf
  have : (i : Int) * r.step ≤ (r.to - r.fr) * r.step := Int.mul_le_mul_of_nonneg_right (by omega) (by omega)
  omega
 ·
  have hi0 : i = 0 := by omega
  subst hi0
  simp
  exact hx.2
theorem seats_len {r : RowR} (hok : RowOk r) : (seatsS r).length ≤ 60 := by
 unfold seatsS
 refine Nat.le_trans (List.length_filter_le _ _) ?_
 rw [List.length_map, List.length_range]
 have := hok.few
 unfold spanS
 omega
theorem wf_i64 {n : Int} (h1 : -9223372036854775808 ≤ n) (h2 : n ≤ 9223372036854775807) : (Lit.int .i64 n).wf = true := by
 show (decide _ && decide _) = true
 rw [Bool.and_eq_true]
 exact ⟨decide_eq_true h1, decide_eq_true h2⟩

theorem RowK.of_kupd {gB M : Nat} {w w' : World} {bl : Bool} {es : Array MapEntry} {c : Nat} (hB : w.heap[gB]? = some (.cells #[.bool bl] 4 (0, 0))) (hM : w.heap[M]? = some (.map es c)) (hu : KUpd (SevT gB M) w w') : RowK w w' := fun b arr x hb => hu.block b _ hb (by
 rintro (rfl | rfl | ⟨A, T, y, e, h⟩)
 ·
  rw [hB] at hb; cases hb
 ·
  rw [hM] at hb; cases hb
 ·
  cases e
  rcases h with h | h <;> exact absurd h (by decide))

theorem spots_any (w0 : World) (l : LevR) (r : RowR) (gr gO gM gR gB gl M : Nat) (ra : Option Addr) (rc : Nat) (w : World) (rows : List RowR) (N : Nat) (h : Sev w0 l r gr gO gM gR gB gl M ra rows.length rc w [] (gAt rows) false N)
  (hl : l.In w0) (hr : r.In w0) (hok : RowOk r) (hN : N ≤ 900000) (hrw : rows.length ≤ 10000) :
  Calls Tryz.prog 18 #[.agg #[.string (bs r.name), .int .i64 r.x, .int .i64 r.y, .int .i64 r.fr, .int .i64 r.to, .int .i64 r.step, .slice r.ma r.mn r.mc, .int .i64 r.at'], .func (.func 55) #[] #[.pointer (some ⟨gr, 0, none⟩), .pointer (some ⟨gO, 0, none⟩), .pointer (some ⟨gM, 0, none⟩), .pointer (some ⟨gR, 0, none⟩), .pointer (some ⟨gB, 0, none⟩), .pointer (some ⟨gl, 0, none⟩)]] w
   fun e w' => e = .returned (.tuple #[]) ∧ Sev w0 l r gr gO gM gR gB gl M ra rows.length rc w' (othS rows r.y (seatsS r)) (gAt (rows ++ [r])) (blockedB l r) (N + (seatsS r).length) ∧ KUpd (SevT gB M) w w' := by
 rw [gAt_next]
 refine seats_any w r hok 55 [.pointer (some ⟨gr, 0, none⟩), .pointer (some ⟨gO, 0, none⟩), .pointer (some ⟨gM, 0, none⟩), .pointer (some ⟨gR, 0, none⟩), .pointer (some ⟨gB, 0, none⟩), .pointer (some ⟨gl, 0, none⟩)] (by kernel_rfl)
  (fun lst wx => Sev w0 l r gr gO gM gR gB gl M ra rows.length rc wx (othS rows r.y lst) (gAtP rows r.y lst) (lst.any fun p => (l.pillars.any fun b => insideB b p.2 r.y) || (l.aisles.any fun b => insideB b p.2 r.y)) (N + lst.length) ∧ KUpd (SevT gB M) w wx) ?_ ?_ ?_ ⟨by rw [gAtP_nil]; exact h, KUpd.refl _ _⟩
 ·
  rintro lst wx ⟨⟨v, f, hs⟩, _⟩
  exact hr.below hs.below
 ·
  rintro lst wx w' ⟨⟨v, f, hs⟩, hk⟩ hb
  exact ⟨⟨v, f, hs.down hb⟩, hk.trans (KUpd.of_below hb)⟩
 ·
  rintro lst p hp wx ⟨hs, hk⟩
  have hpm : p ∈ seatsS r := hp.subset (by simp)
  obtain ⟨_, _, h3, h4⟩ := seat_range hok hpm
  have hll : lst.length + 1 ≤ 60 := by
   have := hp.length_le
   have := seats_len hok
   rw [List.length_append] at *
   simp at *
   omega
  have hlo := othS_le rows r.y lst
  have hlg := gAt_le rows (p.2, r.y)
  have hlm : lst.length * rows.length ≤ 60 * 10000 := Nat.mul_le_mul (by omega) hrw
  have hgp := gAtP_at (rows := rows) hok hp
  have hcy := hok.cy
  refine (spot_any w0 l r gr gO gM gR gB gl M ra rows.length rc wx _ _ _ _ p.1 p.2 hs hl ⟨wf_i64 (by omega) (by omega), wf_i64 (by show _ ≤ r.y; omega) (by show r.y ≤ _; omega)⟩ (by omega) (by rw [hgp]; omega) (by rw [hgp]; omega) (by omega)).mono ?_
  rintro e w' ⟨rfl, h5, h6⟩
  obtain ⟨v, f, hsf⟩ := hs
  obtain ⟨es, c, hM⟩ := hsf.tak.blk
  refine ⟨rfl, ⟨?_, hk.trans h6⟩, RowK.of_kupd hsf.bv hM h6⟩
  rw [hgp] at h5
  rw [othS_next, gAtP_next rows hok hp, List.any_append, List.length_append]
  simpa [← Nat.add_assoc] using h5
end Go.Proofs.YtmcdhggnpfhlmaaGreat

namespace Go.Proofs.YtmcdhggnpfhlmaaGreat
open Go.RowKit Go.IntWalk Go.Maps Go.WideMaps
set_option linter.unusedSimpArgs false
set_option linter.unusedVariables false

theorem seats_nodup (r : RowR) : ((seatsS r).map (·.1)).Nodup := by
 unfold seatsS
 rw [List.filter_map, List.map_map]
 refine List.Pairwise.map _ (fun a b (h : a ≠ b) => ?_) ((List.nodup_range).filter _)
 intro e
 have : r.fr + (a : Int) = r.fr + (b : Int) := e
 exact h (by omega)

/-- Where a number stands in a list of seats, from base on. -/
def atF2 (base : Nat) (l : List (Int × Int)) (j : Int) : Int := if j ∈ l.map (·.1) then ((base + l.findIdx fun p => decide (p.1 = j) : Nat) : Int) else 0
theorem atF2_nil (base : Nat) : atF2 base [] = fun _ => 0 := by
 funext j
 simp [atF2]
theorem atF2_next {base : Nat} {l : List (Int × Int)} {q : Int × Int} (h : q.1 ∉ l.map (·.1)) : atF2 base (l ++ [q]) = fun j => if j = q.1 then ((base + l.length : Nat) : Int) else atF2 base l j := by
 funext j
 unfold atF2
 rw [List.findIdx_append, List.map_append]
 by_cases e : j = q.1
 ·
  have hn : l.findIdx (fun p => decide (p.1 = j)) = l.length := by
   rw [List.findIdx_eq_length]
   intro p hp
   have : p.1 ≠ j := fun h2 => h (by rw [← e, ← h2]; exact List.mem_map_of_mem hp)
   simpa using this
  have hf : List.findIdx (fun p : Int × Int => decide (p.1 = j)) [q] = 0 := by
   rw [List.findIdx_cons]
   simp [e]
  rw [if_pos e, if_pos (by simp [e]), hn, hf]
  simp
 ·
  rw [if_neg e]
  by_cases hm : j ∈ l.map (·.1)
  ·
   rw [if_pos (List.mem_append_left _ hm), if_pos hm]
   have hlt : l.findIdx (fun p => decide (p.1 = j)) < l.length := by
    rw [List.findIdx_lt_length]
    obtain ⟨p, hp, e2⟩ := List.mem_map.1 hm
    exact ⟨p, hp, by simp [e2]⟩
   rw [if_pos hlt]
  ·
   rw [if_neg hm, if_neg]
   rw [List.mem_append]
   rintro (h2 | h2)
   ·
    exact hm h2
   ·
    exact e (by simpa using h2)
theorem seat_new {r : RowR} {l : List (Int × Int)} {q : Int × Int} (h : (l ++ [q]) <+: seatsS r) : q.1 ∉ l.map (·.1) := by
 have hn := (List.Sublist.nodup (h.sublist.map (·.1)) (seats_nodup r))
 rw [List.map_append, List.nodup_append] at hn
 intro hm
 exact hn.2.2 q.1 hm q.1 (by simp) rfl
theorem atF2_seat {base : Nat} {r : RowR} {a : Nat} (ha : a < (seatsS r).length) : atF2 base (seatsS r) (seatsS r)[a].1 = ((base + a : Nat) : Int) := by
 unfold atF2
 rw [if_pos (List.mem_map_of_mem (List.getElem_mem ha))]
 have : (seatsS r).findIdx (fun p => decide (p.1 = (seatsS r)[a].1)) = a := by
  rw [List.findIdx_eq ha]
  refine ⟨by simp, fun j hj => ?_⟩
  have hn := List.pairwise_iff_getElem.1 (seats_nodup r) j a (by simp; omega) (by simpa using ha) hj
  simp only [List.getElem_map] at hn
  simpa using hn
 rw [this]
theorem place_of {r : RowR} {a : Nat} (ha : a < (seatsS r).length) : placeOf r (seatsS r)[a].1 = a := by
 unfold placeOf
 rw [List.findIdx_eq ha]
 refine ⟨by simp, fun j hj => ?_⟩
 have hn := List.pairwise_iff_getElem.1 (seats_nodup r) j a (by simp; omega) (by simpa using ha) hj
 simp only [List.getElem_map] at hn
 simpa using hn

/-- The row's places are made. -/
theorem first_any (w0 : World) (h : HallR) (l : LevR) (r : RowR) (n i k gn gi gk gr gh g3 gm M : Nat) (w : World) (out : List PlaceR) (hp : Plc1 w0 h r n i k gn gi gk gr gh g3 gm M w out 0 (fun _ => 0))
  (hh : h.In w0) (hl : h.levels[n]? = some l) (hpn : l.pn ≤ 100000) (hr : r.In w0) (hok : RowOk r) (ho : out.length ≤ 800000) :
  Calls Tryz.prog 18 #[.agg #[.string (bs r.name), .int .i64 r.x, .int .i64 r.y, .int .i64 r.fr, .int .i64 r.to, .int .i64 r.step, .slice r.ma r.mn r.mc, .int .i64 r.at'], .func (.func 62) #[] #[.pointer (some ⟨gn, 0, none⟩), .pointer (some ⟨gi, 0, none⟩), .pointer (some ⟨gk, 0, none⟩), .pointer (some ⟨gr, 0, none⟩), .pointer (some ⟨gh, 0, none⟩), .pointer (some ⟨g3, 0, none⟩), .pointer (some ⟨gm, 0, none⟩)]] w
   fun e w' => e = .returned (.tuple #[]) ∧ Plc1 w0 h r n i k gn gi gk gr gh g3 gm M w' (out ++ (seatsS r).map (seatPlace h l n i k r)) (seatsS r).length (atF2 out.length (seatsS r)) ∧ KUpd (PlT M g3) w w' := by
 refine seats_any w r hok 62 [.pointer (some ⟨gn, 0, none⟩), .pointer (some ⟨gi, 0, none⟩), .pointer (some ⟨gk, 0, none⟩), .pointer (some ⟨gr, 0, none⟩), .pointer (some ⟨gh, 0, none⟩), .pointer (some ⟨g3, 0, none⟩), .pointer (some ⟨gm, 0, none⟩)] (by kernel_rfl)
  (fun lst wx => Plc1 w0 h r n i k gn gi gk gr gh g3 gm M wx (out ++ lst.map (seatPlace h l n i k r)) lst.length (atF2 out.length lst) ∧ KUpd (PlT M g3) w wx) ?_ ?_ ?_ ⟨by rw [atF2_nil, List.map_nil, List.append_nil]; exact hp, KUpd.refl _ _⟩
 ·
  rintro lst wx ⟨hs, _⟩
  exact hr.below hs.below
 ·
  rintro lst wx w' ⟨hs, hk⟩ hb
  exact ⟨hs.down hb, hk.trans (KUpd.of_below hb)⟩
 ·
  rintro lst p hpre wx ⟨hs, hk⟩
  have hpm : p ∈ seatsS r := hpre.subset (by simp)
  obtain ⟨h1, h2, _, _⟩ := seat_range hok hpm
  have hll : lst.length + 1 ≤ 60 := by
   have := hpre.length_le
   have := seats_len hok
   rw [List.length_append] at *
   simp at *
   omega
  have hfr := hok.fr
  have hto := hok.to
  refine (places1_any w0 h l r n i k gn gi gk gr gh g3 gm M wx _ _ _ p.1 p.2 hs hh hl hpn hr (wf_i64 (by omega) (by omega)) (by rw [List.length_append, List.length_map]; omega) (by omega)).mono ?_
  rintro e w' ⟨rfl, h5, h6⟩
  obtain ⟨es, c, hM⟩ := hs.map.blk
  obtain ⟨v, hv, _⟩ := hs.out.row
  refine ⟨rfl, ⟨?_, hk.trans h6⟩, fun b arr x hb => h6.block b _ hb (by
   rintro (rfl | rfl | ⟨A, y, e⟩)
   ·
    rw [hM] at hb; cases hb
   ·
    rw [hv] at hb; cases hb
   ·
    cases e)⟩
  rw [atF2_next (seat_new hpre), List.map_append, List.length_append, ← List.append_assoc]
  rw [List.length_append, List.length_map] at h5
  exact h5

/-! ### With what each place goes -/
def bsd (r : RowR) (s : Int) (q : Int × Int) : Bool := decide ((markS r.marks q.1).kind = 4) && decide ((markS r.marks q.1).wth = s)
/-- .. when some seats are through. -/
def withP (r : RowR) (first : Nat) (lst : List (Int × Int)) (s : Int) : Int :=
 if (markS r.marks s).kind = 4 then (if s ∈ lst.map (·.1) then ((first + placeOf r (markS r.marks s).wth : Nat) : Int) else -1)
 else if (markS r.marks s).kind = 2 then
  match lst.find? (bsd r s) with
  | some q => ((first + placeOf r q.1 : Nat) : Int)
  | none => -1
 else -1
theorem withP_all {r : RowR} {first : Nat} {s : Int} (h : s ∈ (seatsS r).map (·.1)) : withP r first (seatsS r) s = withS r first s := by
 unfold withP withS
 simp only [if_pos h]
 rfl
theorem withP_nil (r : RowR) (first : Nat) (s : Int) : withP r first [] s = -1 := by
 unfold withP
 simp
/-- A seat that is no companion's changes nothing. -/
theorem withP_skip {r : RowR} {first : Nat} {lst : List (Int × Int)} {q : Int × Int} (hk : (markS r.marks q.1).kind ≠ 4) (s : Int) : withP r first (lst ++ [q]) s = withP r first lst s := by
 unfold withP
 by_cases h4 : (markS r.marks s).kind = 4
 ·
  rw [if_pos h4, if_pos h4]
  have hne : s ≠ q.1 := fun e => hk (by rw [← e]; exact h4)
  have : s ∈ (lst ++ [q]).map (·.1) ↔ s ∈ lst.map (·.1) := by
   rw [List.map_append, List.mem_append]
   simp [hne]
  by_cases hm : s ∈ lst.map (·.1)
  ·
   rw [if_pos hm, if_pos (this.2 hm)]
  ·
   rw [if_neg hm, if_neg (fun h => hm (this.1 h))]
 ·
  rw [if_neg h4, if_neg h4]
  have hb : bsd r s q = false := by simp [bsd, hk]
  rw [List.find?_append]
  have : List.find? (bsd r s) [q] = none := by simp [List.find?_cons, hb]
  rw [this, Option.or_none]
/-- .. and one that is, its own place and its wheelchair's. -/
theorem withP_other {r : RowR} {first : Nat} {lst : List (Int × Int)} {q : Int × Int} {s : Int} (h1 : s ≠ q.1) (h2 : (markS r.marks q.1).wth ≠ s) : withP r first (lst ++ [q]) s = withP r first lst s := by
 unfold withP
 have : s ∈ (lst ++ [q]).map (·.1) ↔ s ∈ lst.map (·.1) := by
  rw [List.map_append, List.mem_append]
  simp [h1]
 have hb : bsd r s q = false := by simp [bsd, h2]
 rw [List.find?_append]
 have hn : List.find? (bsd r s) [q] = none := by simp [List.find?_cons, hb]
 rw [hn, Option.or_none]
 by_cases hm : s ∈ lst.map (·.1)
 ·
  simp only [if_pos hm, if_pos (this.2 hm)]
 ·
  simp only [if_neg hm, if_neg (fun h => hm (this.1 h))]
theorem withP_own {r : RowR} {first : Nat} {lst : List (Int × Int)} {q : Int × Int} (hk : (markS r.marks q.1).kind = 4) : withP r first (lst ++ [q]) q.1 = ((first + placeOf r (markS r.marks q.1).wth : Nat) : Int) := by
 unfold withP
 rw [if_pos hk, if_pos (by simp)]
theorem withP_wheel {r : RowR} {first : Nat} {lst : List (Int × Int)} {q : Int × Int} (hk : (markS r.marks q.1).kind = 4) (hw : (markS r.marks (markS r.marks q.1).wth).kind = 2) :
  withP r first (lst ++ [q]) (markS r.marks q.1).wth = if withP r first lst (markS r.marks q.1).wth < 0 then ((first + placeOf r q.1 : Nat) : Int) else withP r first lst (markS r.marks q.1).wth := by
 unfold withP
 have h24 : ((2 : Int) = 4) = False := by simp
 rw [List.find?_append]
 simp only [hw, h24, if_false, if_true]
 cases hf : lst.find? (bsd r (markS r.marks q.1).wth) with
 | some p =>
  simp only [Option.some_or]
  rw [if_neg (by omega)]
 | none =>
  have hb : bsd r (markS r.marks q.1).wth q = true := by simp [bsd, hk]
  simp [hb]

/-- The list when some seats are through. -/
def rowP (h : HallR) (l : LevR) (n i k : Nat) (r : RowR) (first : Nat) (lst : List (Int × Int)) : List PlaceR := (seatsS r).map fun p => { seatPlace h l n i k r p with wth := withP r first lst p.1 }
theorem rowP_nil (h : HallR) (l : LevR) (n i k : Nat) (r : RowR) (first : Nat) : rowP h l n i k r first [] = (seatsS r).map (seatPlace h l n i k r) := by
 unfold rowP
 refine List.map_congr_left fun p _ => ?_
 rw [withP_nil]
 rfl
theorem rowP_all (h : HallR) (l : LevR) (n i k : Nat) (r : RowR) (first : Nat) : rowP h l n i k r first (seatsS r) = rowPlaces h l n i k r first := by
 unfold rowP rowPlaces
 refine List.map_congr_left fun p hp => ?_
 rw [withP_all (List.mem_map_of_mem hp)]
theorem rowP_len (h : HallR) (l : LevR) (n i k : Nat) (r : RowR) (first : Nat) (lst : List (Int × Int)) : (rowP h l n i k r first lst).length = (seatsS r).length := by simp [rowP]
theorem rowP_skip {h : HallR} {l : LevR} {n i k : Nat} {r : RowR} {first : Nat} {lst : List (Int × Int)} {q : Int × Int} (hk : (markS r.marks q.1).kind ≠ 4) : rowP h l n i k r first (lst ++ [q]) = rowP h l n i k r first lst := by
 unfold rowP
 exact List.map_congr_left fun p _ => by rw [withP_skip hk]
theorem rowP_at {h : HallR} {l : LevR} {n i k : Nat} {r : RowR} {first : Nat} {lst : List (Int × Int)} {a : Nat} (ha : a < (seatsS r).length) (ha2 : a < (rowP h l n i k r first lst).length) : (rowP h l n i k r first lst)[a]'ha2 = { seatPlace h l n i k r ((seatsS r)[a]'ha) with wth := withP r first lst ((seatsS r)[a]'ha).1 } := by
 simp [rowP]

/-- A companion's seat: its place is stored into; then, where nothing stands, its wheelchair's. -/
theorem rowP_take {h : HallR} {l : LevR} {n i k : Nat} {r : RowR} {first : Nat} {lst : List (Int × Int)} {a b : Nat} (ha : a < (seatsS r).length) (hb : b < (seatsS r).length) (hk : (markS r.marks (seatsS r)[a].1).kind = 4) (hw : (markS r.marks (seatsS r)[a].1).wth = (seatsS r)[b].1) (hk2 : (markS r.marks (seatsS r)[b].1).kind = 2) :
  rowP h l n i k r first (lst ++ [(seatsS r)[a]]) = ((rowP h l n i k r first lst).set a { seatPlace h l n i k r (seatsS r)[a] with wth := ((first + b : Nat) : Int) }).set b
   { seatPlace h l n i k r (seatsS r)[b] with wth := if withP r first lst (seatsS r)[b].1 < 0 then ((first + a : Nat) : Int) else withP r first lst (seatsS r)[b].1 } := by
 have hab : a ≠ b := by
  rintro rfl
  rw [hk] at hk2
  cases hk2
 apply List.ext_getElem
 ·
  simp [rowP_len]
 intro c h1 h2
 have hc : c < (seatsS r).length := by rw [rowP_len] at h1; exact h1
 rw [rowP_at hc, List.getElem_set]
 by_cases hcb : b = c
 ·
  subst hcb
  rw [if_pos rfl]
  have := withP_wheel (first := first) (lst := lst) hk (by rw [hw]; exact hk2)
  rw [hw, place_of ha] at this
  rw [this]
 ·
  rw [if_neg hcb, List.getElem_set]
  by_cases hca : a = c
  ·
   subst hca
   rw [if_pos rfl, withP_own hk, hw, place_of hb]
  ·
   rw [if_neg hca, rowP_at hc]
   have hn := seats_nodup r
   have key : ∀ {x y : Nat} (hx : x < (seatsS r).length) (hy : y < (seatsS r).length), (seatsS r)[x].1 = (seatsS r)[y].1 → x = y := fun {x y} hx hy e => by
    have h1 := place_of hx
    have h2 := place_of hy
    rw [e] at h1
    omega
   rw [withP_other (fun e => hca (key hc ha e).symm) (fun e => hcb (key hb hc (hw.symm.trans e)))]
end Go.Proofs.YtmcdhggnpfhlmaaGreat
