/- hall: places$2: what a companion's seat goes with; hall: places: a row whole; plain: lists grow. -/
import Derived.Test.YtmcdhggnpfhlmaaGreatQHMR18

set_option linter.unusedVariables false
set_option linter.unusedSimpArgs false
namespace Go.Proofs.YtmcdhggnpfhlmaaGreat
open Go.RowKit Go.IntWalk Go.Maps Go.WideMaps
set_option linter.unusedSimpArgs false
set_option linter.unusedVariables false

/-- The last cell of a place of an own list. -/
theorem own_wth {w : World} {B n c : Nat} {la : Option Addr} {P : List PlaceR} (h : w.ownsRow B 52 9 (.slice la n c) n (flat PlaceE P)) {ii : Nat} (hi : ii < P.length) :
  ∃ gb cur, la = some ⟨gb, 0, none⟩ ∧ B ≤ gb ∧ w.heap[gb]? = some (.cells cur 52 (0, 0)) ∧ w.cell? ⟨gb, ii * 9 + 8, none⟩ = some (.int .i64 P[ii].wth) ∧ w.frozen? ⟨gb, ii * 9 + 8, none⟩ = false ∧
   ∀ v : Int, (w.setCell ⟨gb, ii * 9 + 8, none⟩ (.int .i64 v)).ownsRow B 52 9 (.slice la n c) n (flat PlaceE (P.set ii { P[ii] with wth := v })) := by
 have hl : P.length = n := by
  have := h.1
  rw [flat_len] at this
  exact Nat.eq_of_mul_eq_mul_right PlaceE.pos this
 obtain ⟨g, c', e, _, hb, _, hr⟩ := RecRow.of_row (by omega) h
 simp only [Value.slice.injEq] at e
 obtain ⟨rfl, _, rfl⟩ := e
 obtain ⟨cur, hc, _, _⟩ := hr
 have hr := (RecRow.of_row (by omega) h)
 obtain ⟨g2, c2, e2, _, _, _, hr⟩ := hr
 simp only [Value.slice.injEq, Option.some.injEq, Addr.mk.injEq] at e2
 obtain ⟨⟨rfl, _, _⟩, _, _⟩ := e2
 refine ⟨g, cur, rfl, hb, hc, ?_, hr.free _, fun v => ?_⟩
 ·
  have := hr.cell ii 8 hi (by omega)
  rw [rc_eq _ _ hi] at this
  exact this
 ·
  refine own_set h ii 8 _ _ hi (by omega) fun q hq => ?_
  rw [rc_eq _ _ hi]
  have : q = 0 ∨ q = 1 ∨ q = 2 ∨ q = 3 ∨ q = 4 ∨ q = 5 ∨ q = 6 ∨ q = 7 ∨ q = 8 := by omega
  rcases this with rfl | rfl | rfl | rfl | rfl | rfl | rfl | rfl | rfl <;> rfl

theorem rowP_mem {h : HallR} {l : LevR} {n i k : Nat} {r : RowR} {X : List PlaceR} {lst : List (Int × Int)} {ja b : Nat} (ha : ja < (seatsS r).length) (hb : b < (seatsS r).length) (hk : (markS r.marks (seatsS r)[ja].1).kind = 4) (hw : (markS r.marks (seatsS r)[ja].1).wth = (seatsS r)[b].1) (hk2 : (markS r.marks (seatsS r)[b].1).kind = 2)
  {P : List PlaceR} (hP : X ++ rowP h l n i k r X.length lst = P) {ia ib : Nat} (hia : X.length + ja = ia) (hib : X.length + b = ib) (h1 : ia < P.length) (h2 : ib < P.length) :
  ia ≠ ib ∧ X ++ rowP h l n i k r X.length (lst ++ [(seatsS r)[ja]]) = (P.set ia { P[ia] with wth := (ib : Int) }).set ib { P[ib] with wth := if P[ib].wth < 0 then (ia : Int) else P[ib].wth } := by
 have hab : ja ≠ b := by
  rintro rfl
  rw [hk] at hk2
  cases hk2
 subst hP hia hib
 refine ⟨by omega, ?_⟩
 have e1 : (X ++ rowP h l n i k r X.length lst)[X.length + ja] = { seatPlace h l n i k r (seatsS r)[ja] with wth := withP r X.length lst (seatsS r)[ja].1 } := by
  rw [List.getElem_append_right (by omega)]
  simp only [Nat.add_sub_cancel_left]
  exact rowP_at ha _
 have e2 : (X ++ rowP h l n i k r X.length lst)[X.length + b] = { seatPlace h l n i k r (seatsS r)[b] with wth := withP r X.length lst (seatsS r)[b].1 } := by
  rw [List.getElem_append_right (by omega)]
  simp only [Nat.add_sub_cancel_left]
  exact rowP_at hb _
 rw [rowP_take ha hb hk hw hk2, e1, e2, List.set_append_right _ _ (by omega), Nat.add_sub_cancel_left, List.set_append_right _ _ (by omega), Nat.add_sub_cancel_left]

/-- The wheelchair place that a companion's seat names is in the row. -/
def Wheels (r : RowR) : Prop := ∀ (a : Nat) (ha : a < (seatsS r).length), (markS r.marks (seatsS r)[a].1).kind = 4 → ∃ (b : Nat) (hb : b < (seatsS r).length), (markS r.marks (seatsS r)[a].1).wth = (seatsS r)[b].1 ∧ (markS r.marks (seatsS r)[b].1).kind = 2

set_option maxRecDepth 100000 in
set_option maxHeartbeats 16000000 in
theorem places2_any (w0 : World) (h : HallR) (l : LevR) (r : RowR) (n i k gn gi gk gr gh g3 gm M : Nat) (w : World) (X : List PlaceR) (N : Nat) (lst : List (Int × Int)) (ja : Nat) (x : Int) (ha : ja < (seatsS r).length)
  (hp : Plc1 w0 h r n i k gn gi gk gr gh g3 gm M w (X ++ rowP h l n i k r X.length lst) N (atF2 X.length (seatsS r))) (hr : r.In w0) (hok : RowOk r) (hwb : Wheels r) :
  Calls Tryz.prog 64 #[.int .i64 (seatsS r)[ja].1, .int .i64 x, .pointer (some ⟨gr, 0, none⟩), .pointer (some ⟨gm, 0, none⟩), .pointer (some ⟨g3, 0, none⟩)] w
   fun e w' => e = .returned (.tuple #[]) ∧ Plc1 w0 h r n i k gn gi gk gr gh g3 gm M w' (X ++ rowP h l n i k r X.length (lst ++ [(seatsS r)[ja]])) N (atF2 X.length (seatsS r)) ∧ KUpd (PlT M g3) w w' := by
 have HP := Lib.hid hp
 have HR := Lib.hid hr
 have HSKIP : Hid ((markS r.marks (seatsS r)[ja].1).kind ≠ 4 → rowP h l n i k r X.length (lst ++ [(seatsS r)[ja]]) = rowP h l n i k r X.length lst) := fun hk => rowP_skip hk
 have HWB := Lib.hid (hwb ja ha)
 have HAT := Lib.hid (atF2_seat (base := X.length) ha)
 have HAB := Lib.hid (fun b hb => atF2_seat (base := X.length) (r := r) (a := b) hb)
 have HTK := Lib.hid (fun b hb P ia ib => rowP_mem (h := h) (l := l) (n := n) (i := i) (k := k) (r := r) (X := X) (lst := lst) (ja := ja) (b := b) (P := P) (ia := ia) (ib := ib) ha hb)
 have HRL := Lib.hid (rowP_len h l n i k r X.length lst)
 obtain ⟨hs1, hs2, _, _⟩ := seat_range hok (List.getElem_mem ha)
 have hfr := hok.fr
 have hto := hok.to
 have hsw : (Lit.int .i64 (seatsS r)[ja].1).wf = true := wf_i64 (by omega) (by omega)
 have HBW : Hid (∀ b (hb : b < (seatsS r).length), (Lit.int .i64 (seatsS r)[b].1).wf = true) := fun b hb => by
  obtain ⟨h1, h2, _, _⟩ := seat_range hok (List.getElem_mem hb)
  exact wf_i64 (by omega) (by omega)
 clear hp hr hwb hs1 hs2 hfr hto hok
 obtain ⟨s, hs⟩ : ∃ s, (seatsS r)[ja].1 = s := ⟨_, rfl⟩
 rw [hs] at HSKIP HWB HAT hsw ⊢
 have HSA := Lib.hid hs
 clear hs
 refine enter_fr (N := 39) [.int .i64 s, .int .i64 x, .pointer (some ⟨gr, 0, none⟩), .pointer (some ⟨gm, 0, none⟩), .pointer (some ⟨g3, 0, none⟩)] (Tryz.func64) rfl Tryz.ntmps64 (by rfl) (fun a hF => ?_);replace hF := hF.kp [0, 2, 3, 4] rfl
 obtain ⟨q0, q1, q2, q3, q4, q5, q6, q7⟩ := HP.out.row.cells
 refine wp_seq_k (fun K hK => ?_);revert hF;refine zrp [4, 1] [2, 3, 4] fun a hF => ?_;revert hF;refine zos fun K hK => ?_
 refine (mark_any w r s (HR.out.below HP.out.below)).mono ?_
 rintro e w1 ⟨rfl, hb1⟩
 have HP1 := Lib.hid (HP.out.down hb1)
 have HK1 : Hid (KUpd (PlT M g3) w w1) := KUpd.of_below hb1
 clear q0 q1 q2 q3 q4 q5 q6 q7 HP hb1
 obtain ⟨mk, hmk⟩ : ∃ m, markS r.marks s = m := ⟨_, rfl⟩
 rw [hmk] at HSKIP HWB
 have HMK := Lib.hid hmk
 rw [hmk]
 clear hmk
 refine hK _ _ (fun a hF => ?_);clear hK K;refine seq_one ?_;revert hF;refine qe0 fun a hF => ?_;refine seq_one ?_;revert hF;refine qu2 fun a hF => ?_;refine seq_end ?_;replace hF := hF.kp [0, 3, 4, 7] rfl;refine hK _ _ ?_;clear hK
 have HX : Hid (MarkIn (w1.alloc (.cells #[.int .i64 mk.kind, .int .i64 mk.seat, .int .i64 mk.wth] 46)) w1.heap.size mk) := World.alloc_heap_new w1 _
 have HBa := Lib.hid (Joins.below_alloc1 w1 (.cells #[.int .i64 mk.kind, .int .i64 mk.seat, .int .i64 mk.wth] 46))
 have HP2 := Lib.hid (HP1.out.down HBa.out)
 have HK2 : Hid (KUpd (PlT M g3) w (w1.alloc (.cells #[.int .i64 mk.kind, .int .i64 mk.seat, .int .i64 mk.wth] 46))) := HK1.out.trans (KUpd.of_below HBa.out)
 clear HP1 HK1 HBa
 generalize w1.alloc (.cells #[.int .i64 mk.kind, .int .i64 mk.seat, .int .i64 mk.wth] 46) = w2 at *
 obtain ⟨gx, hgx⟩ : ∃ gx, gx = w1.heap.size := ⟨_, rfl⟩
 rw [← hgx] at hF HX
 clear hgx
 obtain ⟨c0, c1, c2⟩ := HX.out.cells
 by_cases h4 : mk.kind = 4
 rotate_left
 ·
  have b4 : (mk.kind == 4) = false := by simp [h4]
  revert hF;refine zrs [4, 4, 4] [0, 3, 4, 7, 14] fun a hF => ?_
  refine cond_no hF rfl ?_
  refine wp_skip ?_
  (try simp only [then_exit, block_exit, block_norm, goto_norm, ↓reduceIte, Nat.reduceEqDiff]);refine end_fr (fn := Tryz.f64) (rs := []) rfl [] hF trivial ?_
  refine ⟨rfl, ?_, HK2.out⟩
  rw [HSKIP.out h4]
  exact HP2.out
 have b4 : (mk.kind == 4) = true := by simp [h4]
 revert hF;refine zrs [4, 4, 4] [0, 3, 4, 7, 14] fun a hF => ?_
 refine cond_yes hF rfl ?_
 obtain ⟨b, hb, hwth, hk2⟩ := HWB.out h4
 have HABB := Lib.hid (HAB.out b hb)
 have hbw := HBW.out b hb
 rw [← hwth] at HABB hbw
 have hPL : (X ++ rowP h l n i k r X.length lst).length = X.length + (seatsS r).length := by rw [List.length_append, HRL.out]
 obtain ⟨ia, hia⟩ : ∃ x, X.length + ja = x := ⟨_, rfl⟩
 obtain ⟨ib, hib⟩ : ∃ x, X.length + b = x := ⟨_, rfl⟩
 have HTB := Lib.hid (fun P hP h1 h2 => HTK.out b hb P ia ib (by rw [HSA.out, HMK.out]; exact h4) (by rw [HSA.out, HMK.out]; exact hwth) hk2 hP hia hib h1 h2)
 rw [hia] at HAT
 rw [hib] at HABB
 have hial : ia < (X ++ rowP h l n i k r X.length lst).length := by rw [hPL]; omega
 have hibl : ib < (X ++ rowP h l n i k r X.length lst).length := by rw [hPL]; omega
 have HTB2 := Lib.hid (HTB.out _ rfl hial hibl)
 clear b4 h4 HSKIP HWB HAB HTK HTB HBW HMK hk2 hwth hPL hia hib HRL
 generalize X ++ rowP h l n i k r X.length lst = PP at *
 -- wheel := at[m.With]
 have cm : w2.cell? ⟨gm, 0, none⟩ = some (.map (some M)) := boxed_cell (j := 0) HP2.out.mv rfl
 have hl1 := HP2.out.map.look hbw
 rw [HABB.out] at hl1
 revert hF;refine zrs [4, 4, 4, 5, 2] [0, 3, 4, 8] fun a hF => ?_
 clear hl1 c0 c1 c2 hbw
 -- out[at[s]].With = wheel
 obtain ⟨ov, hov, horow⟩ := HP2.out.out.row
 obtain ⟨la, lc, rfl, _⟩ := OwnRecs.of_row horow
 obtain ⟨gb, cur, rfl, hgb, hcur, cw, fw, hset⟩ := own_wth horow hial
 have co : w2.cell? ⟨g3, 0, none⟩ = some (.slice (some ⟨gb, 0, none⟩) PP.length lc) := boxed_cell (j := 0) hov rfl
 have hl2 := HP2.out.map.look hsw
 rw [HAT.out] at hl2
 have hil : (ia : Int) < (PP.length : Nat) := by omega
 have hil2 : (ib : Int) < (PP.length : Nat) := by omega
 have HOV := Lib.hid hov
 have HSET := Lib.hid hset
 have HCUR := Lib.hid hcur
 have HGB := Lib.hid hgb
 clear hov horow hset hcur hgb
 refine wp_seq_k (fun K hK => ?_);revert hF;refine zrp [4, 4, 1, 5, 1, 5, 4] [7] fun a hF => ?_;refine seq_one ?_;revert hF;refine qu2 fun a hF => ?_;refine seq_end ?_;replace hF := hF.kp [0, 3, 4, 8] rfl;refine hK _ _ ?_;clear hK
 clear co cw fw hl2 cm hil
 have hk3 : KUpd (PlT M g3) w2 (w2.setCell ⟨gb, ia * 9 + 8, none⟩ (.int .i64 ib)) := KUpd.of_set HCUR.out (Or.inr (Or.inr ⟨_, _, rfl⟩))
 have hrow3 := HSET.out ib
 rw [show PP.length = (PP.set ia { PP[ia] with wth := (ib : Int) }).length from (List.length_set).symm] at hrow3
 have hov3 : (w2.setCell ⟨gb, ia * 9 + 8, none⟩ (.int .i64 ib)).heap[g3]? = some (.cells #[.slice (some ⟨gb, 0, none⟩) PP.length lc] 35 (0, 0)) := set_keep HCUR.out HOV.out (by decide)
 obtain ⟨es, cc, hMb⟩ := HP2.out.map.blk
 have HP3 := Lib.hid (HP2.out.upd (out' := PP.set ia { PP[ia] with wth := (ib : Int) }) (HP2.out.below.trans (below_set HGB.out)) hk3 ⟨HP2.out.out.base, _, hov3, by rw [List.length_set] at hrow3 ⊢; exact hrow3⟩ (HP2.out.map.heap (set_keep_map HCUR.out hMb)))
 have HK3 : Hid (KUpd (PlT M g3) w (w2.setCell ⟨gb, ia * 9 + 8, none⟩ (.int .i64 ib))) := HK2.out.trans hk3
 have HROW3 := Lib.hid hrow3
 have HOV3 := Lib.hid hov3
 clear hk3 hrow3 hov3 hMb HP2 HK2 HSET HOV HCUR
 generalize w2.setCell ⟨gb, ia * 9 + 8, none⟩ (.int .i64 ib) = w3 at *
 -- if out[wheel].With < 0
 have hibl3 : ib < (PP.set ia { PP[ia] with wth := (ib : Int) }).length := by rw [List.length_set]; exact hibl
 have hw3 : (PP.set ia { PP[ia] with wth := (ib : Int) })[ib] = PP[ib] := List.getElem_set_ne HTB2.out.1 _
 obtain ⟨gb2, cur, egb, hgb, hcur, cw, fw, hset⟩ := own_wth (HROW3.out) hibl3
 obtain rfl : gb = gb2 := by simpa using egb
 rw [hw3] at cw hset
 rw [List.length_set] at hset
 have HSET := Lib.hid hset
 have HCUR := Lib.hid hcur
 have co : w3.cell? ⟨g3, 0, none⟩ = some (.slice (some ⟨gb, 0, none⟩) PP.length lc) := boxed_cell (j := 0) HOV3.out rfl
 have HW3 := Lib.hid hw3
 clear hset hcur hgb egb hw3
 obtain ⟨wt, hwt⟩ : ∃ x, PP[ib].wth = x := ⟨_, rfl⟩
 rw [hwt] at cw
 have HWT := Lib.hid hwt
 clear hwt
 by_cases hneg : wt < 0
 rotate_left
 ·
  have bn : decide (wt < 0) = false := decide_eq_false hneg
  revert hF;refine zrs [4, 1, 5, 4, 4, 4] [0, 3, 4, 8, 31] fun a hF => ?_
  refine cond_no hF rfl ?_
  refine wp_skip ?_
  (try simp only [then_exit, block_exit, block_norm, goto_norm, ↓reduceIte, Nat.reduceEqDiff]);refine end_fr (fn := Tryz.f64) (rs := []) rfl [] hF trivial ?_
  refine ⟨rfl, ?_, HK3.out⟩
  rw [HTB2.out.2, HWT.out, if_neg hneg]
  have e1 : ({ PP[ib] with wth := wt } : PlaceR) = PP[ib] := by rw [← HWT.out]
  have e2 : (PP.set ia { PP[ia] with wth := (ib : Int) }).set ib PP[ib] = PP.set ia { PP[ia] with wth := (ib : Int) } := by
   conv => lhs; rw [← HW3.out]
   exact List.set_getElem_self _
  rw [e1, e2]
  exact HP3.out
 have bn : decide (wt < 0) = true := decide_eq_true hneg
 revert hF;refine zrs [4, 1, 5, 4, 4, 4] [0, 3, 4, 8, 31] fun a hF => ?_
 refine cond_yes hF rfl ?_
 clear bn
 have cm : w3.cell? ⟨gm, 0, none⟩ = some (.map (some M)) := boxed_cell (j := 0) HP3.out.mv rfl
 have hl2 := HP3.out.map.look hsw
 rw [HAT.out] at hl2
 revert hF;refine zrp [4, 1, 4, 1, 5, 5, 4] [7] fun a hF => ?_;refine seq_one ?_;revert hF;refine qu2 fun a hF => ?_;refine seq_end ?_;replace hF := hF.kp [] rfl;(try simp only [then_exit, block_exit, block_norm, goto_norm, ↓reduceIte, Nat.reduceEqDiff]);refine end_fr (fn := Tryz.f64) (rs := []) rfl [] hF trivial ?_
 obtain ⟨es, cc, hMb⟩ := HP3.out.map.blk
 have hk4 : KUpd (PlT M g3) w3 (w3.setCell ⟨gb, ib * 9 + 8, none⟩ (.int .i64 ia)) := KUpd.of_set HCUR.out (Or.inr (Or.inr ⟨_, _, rfl⟩))
 have hrow4 := HSET.out ia
 have hov4 : (w3.setCell ⟨gb, ib * 9 + 8, none⟩ (.int .i64 ia)).heap[g3]? = some (.cells #[.slice (some ⟨gb, 0, none⟩) PP.length lc] 35 (0, 0)) := set_keep HCUR.out HOV3.out (by decide)
 refine ⟨rfl, ?_, HK3.out.trans hk4⟩
 rw [HTB2.out.2, HWT.out, if_pos hneg]
 exact HP3.out.upd (HP3.out.below.trans (below_set HGB.out)) hk4 ⟨HP3.out.out.base, _, hov4, by rw [List.length_set, List.length_set]; exact hrow4⟩ (HP3.out.map.heap (set_keep_map HCUR.out hMb))
end Go.Proofs.YtmcdhggnpfhlmaaGreat

namespace Go.Proofs.YtmcdhggnpfhlmaaGreat
open Go.RowKit Go.IntWalk Go.Maps Go.WideMaps
set_option linter.unusedSimpArgs false
set_option linter.unusedVariables false

theorem second_any (w0 : World) (h : HallR) (l : LevR) (r : RowR) (n i k gn gi gk gr gh g3 gm M : Nat) (w : World) (X : List PlaceR) (N : Nat) (hp : Plc1 w0 h r n i k gn gi gk gr gh g3 gm M w (X ++ (seatsS r).map (seatPlace h l n i k r)) N (atF2 X.length (seatsS r)))
  (hr : r.In w0) (hok : RowOk r) (hwb : Wheels r) :
  Calls Tryz.prog 18 #[.agg #[.string (bs r.name), .int .i64 r.x, .int .i64 r.y, .int .i64 r.fr, .int .i64 r.to, .int .i64 r.step, .slice r.ma r.mn r.mc, .int .i64 r.at'], .func (.func 64) #[] #[.pointer (some ⟨gr, 0, none⟩), .pointer (some ⟨gm, 0, none⟩), .pointer (some ⟨g3, 0, none⟩)]] w
   fun e w' => e = .returned (.tuple #[]) ∧ Plc1 w0 h r n i k gn gi gk gr gh g3 gm M w' (X ++ rowPlaces h l n i k r X.length) N (atF2 X.length (seatsS r)) ∧ KUpd (PlT M g3) w w' := by
 rw [← rowP_all]
 refine seats_any w r hok 64 [.pointer (some ⟨gr, 0, none⟩), .pointer (some ⟨gm, 0, none⟩), .pointer (some ⟨g3, 0, none⟩)] (by kernel_rfl)
  (fun lst wx => Plc1 w0 h r n i k gn gi gk gr gh g3 gm M wx (X ++ rowP h l n i k r X.length lst) N (atF2 X.length (seatsS r)) ∧ KUpd (PlT M g3) w wx) ?_ ?_ ?_ ⟨by rw [rowP_nil]; exact hp, KUpd.refl _ _⟩
 ·
  rintro lst wx ⟨hs, _⟩
  exact hr.below hs.below
 ·
  rintro lst wx w' ⟨hs, hk⟩ hb
  exact ⟨hs.down hb, hk.trans (KUpd.of_below hb)⟩
 ·
  rintro lst p hpre wx ⟨hs, hk⟩
  obtain ⟨t, ht⟩ := hpre
  have hlt : lst.length < (seatsS r).length := by rw [← ht]; simp
  have hpe : (seatsS r)[lst.length] = p := by
   simp only [← ht]
   rw [List.getElem_append_left (by simp), List.getElem_append_right (by omega)]
   simp
  obtain ⟨es, c, hM⟩ := hs.map.blk
  obtain ⟨v, hv, _⟩ := hs.out.row
  have := places2_any w0 h l r n i k gn gi gk gr gh g3 gm M wx X N lst lst.length p.2 hlt hs hr hok hwb
  rw [hpe] at this
  refine this.mono ?_
  rintro e w' ⟨rfl, h5, h6⟩
  exact ⟨rfl, ⟨h5, hk.trans h6⟩, fun b arr x hb => h6.block b _ hb (by
   rintro (rfl | rfl | ⟨A, y, e⟩)
   ·
    rw [hM] at hb; cases hb
   ·
    rw [hv] at hb; cases hb
   ·
    cases e)⟩

/-! ### Lists that grow -/
theorem putRow_pre (h : HallR) (l : LevR) (n i : Nat) (out : List PlaceR) (x : RowR × Nat) : out <+: putRow h l n i out x := List.prefix_append _ _
theorem fold_pre {α : Type} (f : List PlaceR → α → List PlaceR) (hf : ∀ o x, o <+: f o x) : ∀ (xs : List α) (out : List PlaceR), out <+: xs.foldl f out
 | [], out => List.prefix_rfl
 | x :: xs, out => (hf out x).trans (fold_pre f hf xs (f out x))
theorem putBlk_pre (h : HallR) (l : LevR) (n : Nat) (out : List PlaceR) (x : BlkR × Nat) : out <+: putBlk h l n out x := fold_pre _ (putRow_pre h l n x.2) _ _
theorem putArea_pre (h : HallR) (l : LevR) (n : Nat) (out : List PlaceR) (x : AreaR × Nat) : out <+: putArea h l n out x := List.prefix_append _ _
theorem putLevel_pre (h : HallR) (out : List PlaceR) (x : LevR × Nat) : out <+: putLevel h out x := (fold_pre _ (putBlk_pre h x.1 x.2) _ _).trans (fold_pre _ (putArea_pre h x.1 x.2) _ _)

/-- A fold over the first of a list with numbers. -/
def foldT {α : Type} (f : List PlaceR → α × Nat → List PlaceR) (xs : List α) (i : Nat) (out : List PlaceR) : List PlaceR := (xs.zipIdx.take i).foldl f out
theorem foldT_zero {α : Type} (f : List PlaceR → α × Nat → List PlaceR) (xs : List α) (out : List PlaceR) : foldT f xs 0 out = out := rfl
theorem foldT_next {α : Type} (f : List PlaceR → α × Nat → List PlaceR) {xs : List α} {i : Nat} (hi : i < xs.length) (out : List PlaceR) : foldT f xs (i + 1) out = f (foldT f xs i out) (xs[i], i) := by
 unfold foldT
 rw [List.take_succ_eq_append_getElem (by simpa using hi), List.foldl_append]
 simp
theorem foldT_all {α : Type} (f : List PlaceR → α × Nat → List PlaceR) (xs : List α) (out : List PlaceR) : foldT f xs xs.length out = xs.zipIdx.foldl f out := by
 unfold foldT
 rw [List.take_of_length_le (by simp)]
theorem foldT_pre {α : Type} (f : List PlaceR → α × Nat → List PlaceR) (hf : ∀ o x, o <+: f o x) (xs : List α) (i : Nat) (out : List PlaceR) : foldT f xs i out <+: xs.zipIdx.foldl f out := by
 have : xs.zipIdx.foldl f out = (xs.zipIdx.drop i).foldl f (foldT f xs i out) := by
  unfold foldT
  rw [← List.foldl_append, List.take_append_drop]
 rw [this]
 exact fold_pre f hf _ _
theorem areaPlaces_len (h : HallR) (l : LevR) (n i : Nat) (a : AreaR) : (areaPlaces h l n i a).length = a.holds.toNat := by simp [areaPlaces]

/-- The variables of places. -/
structure PlcL (w0 : World) (h : HallR) (gh g3 : Nat) (w : World) (out : List PlaceR) : Prop where
 below : Below w0.heap.size w0 w
 hall : HallIn w gh h
 out : OutAt w0 w g3 out
theorem PlcL.down {w0 w w' : World} {h : HallR} {gh g3 : Nat} {out : List PlaceR} (hp : PlcL w0 h gh g3 w out) (hb : Below w.heap.size w w') : PlcL w0 h gh g3 w' out := ⟨hp.below.trans (hb.mono hp.below.size), hp.hall.down hb, hp.out.down hb⟩
theorem PlcL.of {w0 w : World} {h : HallR} {r : RowR} {n i k gn gi gk gr gh g3 gm M N : Nat} {out : List PlaceR} {f : Int → Int} (hp : Plc1 w0 h r n i k gn gi gk gr gh g3 gm M w out N f) : PlcL w0 h gh g3 w out := ⟨hp.below, hp.hall, hp.out⟩
/-- A block of another type stays. -/
theorem PlT.keep {w w' : World} {M g3 b : Nat} {A : Array Value} {T : TypeId} {x : Nat × Nat} {v : Value} {es : Array MapEntry} {c : Nat} (hk : KUpd (PlT M g3) w w') (hM : w.heap[M]? = some (.map es c)) (hv : w.heap[g3]? = some (.cells #[v] 35 (0, 0))) (hb : w.heap[b]? = some (.cells A T x)) (h1 : T ≠ 52) (h2 : T ≠ 35) : w'.heap[b]? = some (.cells A T x) :=
 hk.block _ _ hb (by
  rintro (rfl | rfl | ⟨arr, y, e⟩)
  ·
   rw [hM] at hb; cases hb
  ·
   rw [hv] at hb; cases hb; exact h2 rfl
  ·
   cases e; exact h1 rfl)
end Go.Proofs.YtmcdhggnpfhlmaaGreat
