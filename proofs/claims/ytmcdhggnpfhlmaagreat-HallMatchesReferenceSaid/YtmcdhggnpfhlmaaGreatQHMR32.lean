/- hall: the reference: row. -/
import Derived.Test.YtmcdhggnpfhlmaaGreatQHMR30
import Derived.Test.YtmcdhggnpfhlmaaGreatQHMR31

set_option linter.unusedVariables false
set_option linter.unusedSimpArgs false
namespace Go.Proofs.YtmcdhggnpfhlmaaGreat
open Go.RowKit Go.IntWalk
set_option linter.unusedSimpArgs false
set_option linter.unusedVariables false

structure RrS (w0 w : World) (gx : Nat) (x : BlkR) (gr gy : Nat) (y : RowR) : Prop where
 below : Below w0.heap.size w0 w
 arg : BlkIn w gx x
 res : FltIn w gr ⟨0, 0, 0⟩
 base : w0.heap.size ≤ gr
 var : RowIn w gy y
theorem RrS.down {w0 w w' : World} {gx gr gy : Nat} {x : BlkR} {y : RowR} (h : RrS w0 w gx x gr gy y) (hb : Below w.heap.size w w') : RrS w0 w' gx x gr gy y :=
 ⟨h.below.trans (hb.mono h.below.size), h.arg.down hb, (hb.block gr (lt_of_block h.res)).trans h.res, h.base, h.var.down hb⟩

theorem row_flt {rows : List RowR} {n : Nat} {r : RowR} (h : ¬ rows.findIdx (fun x => decide (x.name = r.name)) < n) :
  rowFault rows n r = if decide ((r.fr < 1 ∨ r.to < r.fr ∨ 10000 < r.to ∨ r.step < 1 ∨ ¬ (coordB r.x = true) ∨ ¬ (coordB r.y = true)) ∨ r.fr < r.to ∧ (10000 < r.step ∨ ¬ (coordB (r.x + (r.to - r.fr) * r.step) = true))) = true then [⟨2, r.at', -1⟩] else if decide (60 ≤ r.to - r.fr ∨ 60 < r.marks.length) = true then [⟨3, r.at', -1⟩] else if marksS r = 0 then [] else [⟨marksS r, r.at', -1⟩] := by
 unfold rowFault
 dsimp only
 rw [if_neg h]
 by_cases k1 : r.fr < 1 ∨ r.to < r.fr ∨ 10000 < r.to ∨ r.step < 1 ∨ ¬ (coordB r.x = true) ∨ ¬ (coordB r.y = true)
 ·
  rw [if_pos k1, if_pos (decide_eq_true (Or.inl k1))]
 rw [if_neg k1]
 by_cases k2 : r.fr < r.to ∧ (10000 < r.step ∨ ¬ (coordB (r.x + (r.to - r.fr) * r.step) = true))
 ·
  rw [if_pos k2, if_pos (decide_eq_true (Or.inr k2))]
 have t1 : ¬ decide ((r.fr < 1 ∨ r.to < r.fr ∨ 10000 < r.to ∨ r.step < 1 ∨ ¬ (coordB r.x = true) ∨ ¬ (coordB r.y = true)) ∨ r.fr < r.to ∧ (10000 < r.step ∨ ¬ (coordB (r.x + (r.to - r.fr) * r.step) = true))) = true := fun e => (of_decide_eq_true e).elim k1 k2
 rw [if_neg k2, if_neg t1]
 by_cases k3 : 60 ≤ r.to - r.fr ∨ 60 < r.marks.length
 ·
  rw [if_pos k3, if_pos (decide_eq_true k3)]
 have t2 : ¬ decide (60 ≤ r.to - r.fr ∨ 60 < r.marks.length) = true := fun e => k3 (of_decide_eq_true e)
 rw [if_neg k3, if_neg t2]

set_option maxRecDepth 100000 in
set_option maxHeartbeats 16000000 in
theorem rrow_any (w : World) (b : BlkR) (n : Nat) (hb : b.In w) (hn : n < b.rows.length) :
  Calls Tryz.prog 86 #[.agg #[.string (bs b.name), .slice b.ra b.rn b.rc, .int .i64 b.at'], .int .i64 (n : Int)] w fun e w' => e = .returned (.agg #[.int .i64 (hdF (rowFault b.rows n b.rows[n])).err, .int .i64 (hdF (rowFault b.rows n b.rows[n])).at', .int .i64 (hdF (rowFault b.rows n b.rows[n])).other]) ∧ Below w.heap.size w w' := by
 have HBI := Lib.hid hb
 have hrl := hb.1.1
 have hrn := hb.2.1
 have HRL := Lib.hid hrl
 have hn1 : n < b.rn := by omega
 have hni : (n : Int) < (b.rn : Nat) := by omega
 have hrin := hb.2.2 b.rows[n] (List.getElem_mem hn)
 clear hb hrl
 refine enter_fr (N := 238) [.agg #[.string (bs b.name), .slice b.ra b.rn b.rc, .int .i64 b.at'], .int .i64 (n : Int)] (Tryz.func86) rfl Tryz.ntmps86 (by rfl) (fun a hF => ?_);replace hF := hF.kp [0, 1] rfl;refine wp_seq_k (fun K hK => ?_);refine region_seq (l := [0, 1]) (by kernel_rfl) ?_;refine seq_one ?_;revert hF;refine qe1 fun a hF => ?_
 have HX : Hid (BlkIn (w.alloc (.cells #[.string (bs b.name), .slice b.ra b.rn b.rc, .int .i64 b.at'] 57)) w.heap.size b) := World.alloc_heap_new w _
 have HB1 : Hid (Below w.heap.size w (w.alloc (.cells #[.string (bs b.name), .slice b.ra b.rn b.rc, .int .i64 b.at'] 57))) := Joins.below_alloc1 w _
 generalize w.alloc (.cells #[.string (bs b.name), .slice b.ra b.rn b.rc, .int .i64 b.at'] 57) = w1 at *
 obtain ⟨gx, hg⟩ : ∃ g, g = w.heap.size := ⟨_, rfl⟩
 rw [← hg] at hF HX
 clear hg
 refine seq_one ?_;revert hF;refine qe0 fun a hF => ?_
 have HR2 : Hid (FltIn (w1.alloc (.cells #[.int .i64 0, .int .i64 0, .int .i64 0] 55)) w1.heap.size ⟨0, 0, 0⟩) := World.alloc_heap_new w1 _
 have hb : Below w1.heap.size w1 (w1.alloc (.cells #[.int .i64 0, .int .i64 0, .int .i64 0] 55)) := Joins.below_alloc1 w1 _
 have HX2 := Lib.hid (HX.out.down hb)
 have HB2 : Hid (Below w.heap.size w (w1.alloc (.cells #[.int .i64 0, .int .i64 0, .int .i64 0] 55))) := HB1.out.trans (hb.mono HB1.out.size)
 have HGR : Hid (w.heap.size ≤ w1.heap.size) := HB1.out.size
 clear HX HB1 hb
 generalize w1.alloc (.cells #[.int .i64 0, .int .i64 0, .int .i64 0] 55) = w2 at *
 obtain ⟨gr, hg⟩ : ∃ g, g = w1.heap.size := ⟨_, rfl⟩
 rw [← hg] at hF HR2 HGR
 clear hg
 refine seq_end ?_;replace hF := hF.kp [1, 2, 4] rfl;refine hK _ _ ?_;clear hK
 obtain ⟨l0, l1, l2⟩ := HX2.out.cells
 obtain ⟨bB, oB, hbb, b0, b1, b2, b3, b4, b5, b6, b7⟩ := row_at (HBI.out.below HB2.out).1 n hn1 hn
 rw [hbb] at l1
 obtain ⟨r, hr⟩ : ∃ r, r = b.rows[n] := ⟨_, rfl⟩
 have HBE := Lib.hid hr
 rw [← hr] at b0 b1 b2 b3 b4 b5 b6 b7 hrin
 have HRI := Lib.hid hrin
 clear hr hbb hrin
 refine wp_seq_k (fun K hK => ?_);revert hF;refine zrp [4, 4, 1, 5, 4] [5, 6] fun a hF => ?_;refine seq_one ?_;revert hF;refine qe0 fun a hF => ?_
 obtain ⟨wa, gy, hwa, hgv, hSV, HTW⟩ := var_new w2 49 #[.string ⟨#[]⟩, .int .i64 0, .int .i64 0, .int .i64 0, .int .i64 0, .int .i64 0, .slice none 0 0, .int .i64 0] #[.string (bs r.name), .int .i64 r.x, .int .i64 r.y, .int .i64 r.fr, .int .i64 r.to, .int .i64 r.step, .slice r.ma r.mn r.mc, .int .i64 r.at'] (by kernel_rfl) rfl (by simp [Value.oneCell'])
 rw [hwa]
 rw [← hgv] at hF
 clear hwa hgv
 refine seq_one ?_;refine op_storev rfl rfl hF rfl rfl rfl rfl hSV ?_;clear hF;refine fun a hF => ?_
 clear hSV
 refine hK _ _ ?_;clear hK
 generalize wa.setRow gy #[.string (bs r.name), .int .i64 r.x, .int .i64 r.y, .int .i64 r.fr, .int .i64 r.to, .int .i64 r.step, .slice r.ma r.mn r.mc, .int .i64 r.at'] = w3 at *
 have HS : Hid (RrS w w3 gx b gr gy r) := ⟨HB2.out.trans (HTW.out.1.mono HB2.out.size), HX2.out.down HTW.out.1, (HTW.out.1.block gr (lt_of_block HR2.out)).trans HR2.out, HGR.out, HTW.out.2.1⟩
 clear HTW HX2 HR2 HB2 HGR l0 l1 l2 b0 b1 b2 b3 b4 b5 b6 b7
 have HLO : Hid (∀ j (hj : j < b.rows.length), j < 0 → decide (b.rows[j].name = r.name) = false) := fun j _ h => by omega
 rw [← HBE.out]
 refine seq_cut (fun a' w' => FrF 238 [] [(4, .pointer (some ⟨gr, 0, none⟩)), (5, .pointer (some ⟨gy, 0, none⟩))] a' ∧ Hid (RrS w w' gx b gr gy r) ∧ Hid (∀ j (hj : j < b.rows.length), j < n → decide (b.rows[j].name = r.name) = false)) (fun KA hKA => ?_) ?_
 ·
  skip
  revert hF;refine zrs [2] [1, 2, 4, 5, 6] fun a hF => ?_
  refine wp_block ?_
  refine loop_fr (fun q a' w' => ∃ i : Nat, i + q = n ∧ FrF 238 [] [(1, .int .i64 (n : Int)), (2, .pointer (some ⟨gx, 0, none⟩)), (4, .pointer (some ⟨gr, 0, none⟩)), (5, .pointer (some ⟨gy, 0, none⟩)), (6, .int .i64 i)] a' ∧ Hid (RrS w w' gx b gr gy r) ∧ Hid (∀ j (hj : j < b.rows.length), j < i → decide (b.rows[j].name = r.name) = false)) n ⟨0, by omega, hF, HS, HLO⟩ ?_
  clear hF HS HLO
  rintro rk a wr ⟨i, hik, hF, HS, HLO⟩ KB hKB
  refine wp_seq_k (fun K hK => ?_)
  by_cases hlt : i < n
  rotate_left
  ·
   have hlti : ¬ (i : Int) < (n : Int) := by omega
   revert hF;refine zrs [1, 1, 5] [1, 2, 4, 5, 6, 19] fun a hF => ?_
   refine cond_no hF rfl ?_
   refine wp_exit ?_
   have hie : i = n := by omega
   rw [hie] at HLO
   exact hKA _ _ ⟨hF.sub ⟨rfl, rfl, trivial⟩, HS, HLO⟩
  have hlti : (i : Int) < (n : Int) := by omega
  revert hF;refine zrs [1, 1, 5] [1, 2, 4, 5, 6, 19] fun a hF => ?_
  refine cond_yes hF rfl ?_
  refine wp_skip ?_
  refine hK _ _ ?_;clear hK;replace hF := hF.kp [1, 2, 4, 5, 6] rfl
  clear hKA
  have hil : i < b.rows.length := by omega
  have hi1 : i < b.rn := by omega
  have hii : (i : Int) < (b.rn : Nat) := by omega
  have HSd : Hid (RrS w wr.drew gx b gr gy r) := HS.out.down (below_d (Below.refl _ _))
  obtain ⟨l0, l1, l2⟩ := HSd.out.arg.cells
  obtain ⟨q0, q1, q2, q3, q4, q5, q6, q7⟩ := HSd.out.var.cells
  obtain ⟨bB, oB, hbb, b0, b1, b2, b3, b4, b5, b6, b7⟩ := row_at (HBI.out.below HSd.out.below).1 i hi1 hil
  rw [hbb] at l1
  obtain ⟨c, hc⟩ : ∃ c, c = b.rows[i] := ⟨_, rfl⟩
  have HCE := Lib.hid hc
  rw [← hc] at b0 b1 b2 b3 b4 b5 b6 b7
  clear hc hbb HS
  have hse := bs_beq c.name r.name
  refine wp_seq_k (fun KC hKC => ?_)
  refine wp_block ?_
  refine wp_seq_k (fun K hK => ?_)
  by_cases hnm : c.name = r.name
  ·
   have hdt : decide (c.name = r.name) = true := by simp [hnm]
   rw [hdt] at hse
   have HE : Hid (hdF (rowFault b.rows n r) = ⟨9, r.at', c.at'⟩) := by
    have h1 : b.rows.findIdx (fun x => decide (x.name = r.name)) = i := first_at hil (by rw [← HCE.out]; exact hdt) HLO.out
    show _ = _
    unfold rowFault
    rw [h1]
    dsimp only
    rw [if_pos hlt, List.getElem?_eq_getElem hil, ← HCE.out]
    rfl
   refine region_any (by kernel_rfl) ?_;revert hF;refine zrb (fuel := 0) [9, 52, 65, 106, 137, 180, 201, 244, 266] [1, 2, 4, 5, 6, 30] fun a hF => ?_
   clear hse hnm hdt l0 l1 l2 q0 q1 q2 q3 q4 q5 q6 q7 b0 b1 b2 b3 b4 b5 b6 b7
   refine hK _ _ ?_;clear hK
   refine cond_yes hF rfl ?_
   have HSe : Hid (RrS w wr.drew.drew gx b gr gy r) := HSd.out.down (below_d (Below.refl _ _))
   obtain ⟨l0, l1, l2⟩ := HSe.out.arg.cells
   obtain ⟨q0, q1, q2, q3, q4, q5, q6, q7⟩ := HSe.out.var.cells
   obtain ⟨bB, oB, hbb, b0, b1, b2, b3, b4, b5, b6, b7⟩ := row_at (HBI.out.below HSe.out.below).1 i hi1 hil
   rw [hbb] at l1
   rw [← HCE.out] at b0 b1 b2 b3 b4 b5 b6 b7
   clear hbb HSd
   refine wp_seq_k (fun K hK => ?_);refine region_any (by kernel_rfl) ?_;revert hF;refine zra (fuel := 2) [9, 52, 73, 116, 129, 170, 201, 244] [8, 9] fun a hF => ?_;refine any_one (n := 8) (fuel := 1) (by kernel_rfl) ?_;revert hF;refine zoc fun K hK => ?_
   refine (rfault_any _ ⟨9, r.at', c.at'⟩).mono ?_
   rintro e wf ⟨rfl, hbf⟩
   have HSf := Lib.hid (HSe.out.down hbf)
   clear hbf HSe l0 l1 l2 q0 q1 q2 q3 q4 q5 q6 q7 b0 b1 b2 b3 b4 b5 b6 b7
   obtain ⟨wz, hwz, hSV, hlv, HBf⟩ := flt_put 9 r.at' c.at' HSf.out.res HSf.out.below HSf.out.base
   clear HSf
   refine hK _ _ (fun a hF => ?_);clear hK K;refine any_one (n := 9) (fuel := 0) (by kernel_rfl) ?_;refine op_storev rfl rfl hF rfl rfl rfl rfl hSV ?_;clear hF;refine fun a hF => ?_;refine any_end (by kernel_rfl) ?_;replace hF := hF.kp [4] rfl
   clear hSV hwz
   refine hK _ _ ?_;clear hK
   refine wp_ret ?_
   (try simp only [then_ret, block_ret, goto_ret])
   exact ret_cell (fn := Tryz.f86) rfl hF rfl hlv ⟨by rw [HE.out], HBf.out⟩
  have hdt : decide (c.name = r.name) = false := by simp [hnm]
  rw [hdt] at hse
  have HLO1 : Hid (∀ j (hj : j < b.rows.length), j < i + 1 → decide (b.rows[j].name = r.name) = false) := fun j hj hlt => by
   by_cases e : j = i
   ·
    subst e
    rw [← HCE.out]
    exact hdt
   ·
    exact HLO.out j hj (by omega)
  refine region_any (by kernel_rfl) ?_;revert hF;refine zrb (fuel := 0) [9, 52, 65, 106, 137, 180, 201, 244, 266] [1, 2, 4, 5, 6, 30] fun a hF => ?_
  clear hse hnm hdt l0 l1 l2 q0 q1 q2 q3 q4 q5 q6 q7 b0 b1 b2 b3 b4 b5 b6 b7
  refine hK _ _ ?_;clear hK
  refine cond_no hF rfl ?_
  refine wp_skip ?_
  refine hKC _ _ ?_;clear hKC
  have hws : IntKind.i64.wrap ((i : Int) + 1) = ((i + 1 : Nat) : Int) := wrap_succ (by omega)
  revert hF;refine zrg [1, 4, 2] [1, 2, 4, 5, 6] fun a hF => ?_
  exact hKB (n - (i + 1)) _ _ (by omega) ⟨i + 1, by omega, hF, HSd, HLO1⟩
 clear hF HS HLO
 rintro a w4 ⟨hF, HS, HLO⟩
 have HFI : Hid (¬ b.rows.findIdx (fun x => decide (x.name = r.name)) < n) := by
  have := first_none (xs := b.rows) (p := fun x => decide (x.name = r.name)) (n := n) (by have := HRL.out; omega) HLO.out
  show ¬ _
  omega
 obtain ⟨T, hT⟩ : ∃ T, T = decide ((r.fr < 1 ∨ r.to < r.fr ∨ 10000 < r.to ∨ r.step < 1 ∨ ¬ (coordB r.x = true) ∨ ¬ (coordB r.y = true)) ∨ r.fr < r.to ∧ (10000 < r.step ∨ ¬ (coordB (r.x + (r.to - r.fr) * r.step) = true))) := ⟨_, rfl⟩
 have HT := Lib.hid hT
 obtain ⟨U, hU⟩ : ∃ U, U = decide (60 ≤ r.to - r.fr ∨ 60 < r.marks.length) := ⟨_, rfl⟩
 have HU := Lib.hid hU
 have HAF : Hid (rowFault b.rows n r = if T = true then [⟨2, r.at', -1⟩] else if U = true then [⟨3, r.at', -1⟩] else if marksS r = 0 then [] else [⟨marksS r, r.at', -1⟩]) := by
  rw [hT, hU]
  exact row_flt HFI.out
 clear hT hU HFI HLO
 have HML := Lib.hid HRI.out.marks.1
 have hmn := HRI.out.mn
 refine wp_seq_k (fun K hK => ?_)
 refine seq_cut (fun a' w' => FrF 238 [] [(4, .pointer (some ⟨gr, 0, none⟩)), (5, .pointer (some ⟨gy, 0, none⟩)), (105, .bool T)] a' ∧ Hid (RrS w w' gx b gr gy r)) (fun KA hKA => ?_) ?_
 ·
  obtain ⟨q0, q1, q2, q3, q4, q5, q6, q7⟩ := HS.out.var.cells
  by_cases h1 : r.fr < 1
  ·
   revert hF;refine zrg [4, 4, 4, 1, 0, 0, 0, 0, 0, 5, 1, 0, 0, 0, 5, 1, 0, 0, 0, 5, 1, 0, 0, 0, 0, 0, 0, 0, 0, 0, 0, 5, 1, 0, 0, 0, 0, 5, 1, 0, 0, 0, 0, 5, 1, 0, 0, 0, 0, 0, 0, 0, 0, 0, 0, 0, 0, 0, 0, 0, 0, 0, 0, 0, 0, 5] [4, 5, 105] fun a hF => ?_
   refine hKA _ _ ⟨?_, HS⟩
   rw [HT.out, decide_eq_true (Or.inl (Or.inl h1))]
   exact hF
  by_cases h2 : r.to < r.fr
  ·
   revert hF;refine zrg [4, 4, 4, 1, 4, 4, 4, 4, 5, 5, 1, 0, 0, 0, 5, 1, 0, 0, 0, 5, 1, 0, 0, 0, 0, 0, 0, 0, 0, 0, 0, 5, 1, 0, 0, 0, 0, 5, 1, 0, 0, 0, 0, 5, 1, 0, 0, 0, 0, 0, 0, 0, 0, 0, 0, 0, 0, 0, 0, 0, 0, 0, 0, 0, 0, 5] [4, 5, 105] fun a hF => ?_
   refine hKA _ _ ⟨?_, HS⟩
   rw [HT.out, decide_eq_true (Or.inl (Or.inr (Or.inl h2)))]
   exact hF
  by_cases h3 : 10000 < r.to
  ·
   revert hF;refine zrg [4, 4, 4, 1, 4, 4, 4, 4, 5, 5, 1, 4, 4, 4, 5, 1, 0, 0, 0, 5, 1, 0, 0, 0, 0, 0, 0, 0, 0, 0, 0, 5, 1, 0, 0, 0, 0, 5, 1, 0, 0, 0, 0, 5, 1, 0, 0, 0, 0, 0, 0, 0, 0, 0, 0, 0, 0, 0, 0, 0, 0, 0, 0, 0, 0, 5] [4, 5, 105] fun a hF => ?_
   refine hKA _ _ ⟨?_, HS⟩
   rw [HT.out, decide_eq_true (Or.inl (Or.inr (Or.inr (Or.inl h3))))]
   exact hF
  by_cases h4 : r.step < 1
  ·
   revert hF;refine zrg [4, 4, 4, 1, 4, 4, 4, 4, 5, 5, 1, 4, 4, 4, 5, 1, 4, 4, 4, 5, 1, 0, 0, 0, 0, 0, 0, 0, 0, 0, 0, 5, 1, 0, 0, 0, 0, 5, 1, 0, 0, 0, 0, 5, 1, 0, 0, 0, 0, 0, 0, 0, 0, 0, 0, 0, 0, 0, 0, 0, 0, 0, 0, 0, 0, 5] [4, 5, 105] fun a hF => ?_
   refine hKA _ _ ⟨?_, HS⟩
   rw [HT.out, decide_eq_true (Or.inl (Or.inr (Or.inr (Or.inr (Or.inl h4)))))]
   exact hF
  by_cases h5 : 10000 < r.step
  ·
   by_cases h6 : r.fr < r.to
   ·
    revert hF;refine zrg [4, 4, 4, 1, 4, 4, 4, 4, 5, 5, 1, 4, 4, 4, 5, 1, 4, 4, 4, 5, 1, 4, 4, 4, 1, 4, 4, 4, 4, 5, 5, 5, 1, 0, 0, 0, 0, 5, 1, 0, 0, 0, 0, 5, 1, 0, 0, 0, 0, 0, 0, 0, 0, 0, 0, 0, 0, 0, 0, 0, 0, 0, 0, 0, 0, 5] [4, 5, 105] fun a hF => ?_
    refine hKA _ _ ⟨?_, HS⟩
    rw [HT.out, decide_eq_true (Or.inr ⟨h6, Or.inl h5⟩)]
    exact hF
   revert hF;refine zrp [4, 4, 4, 1, 4, 4, 4, 4, 5, 5, 1, 4, 4, 4, 5, 1, 4, 4, 4, 5, 1, 4, 4, 4, 1, 4, 4, 4, 4, 5, 5, 5, 1, 4, 4] [35, 36, 37, 38, 39, 40, 41, 42, 43, 44, 45, 46, 47, 48, 49, 50, 51, 52, 53, 54, 55, 56, 57, 58, 59, 60, 61, 62, 63, 64, 65] fun a hF => ?_;revert hF;refine zos fun K hK => ?_
   refine (rcoord_any _ r.x).mono ?_
   rintro e w5 ⟨rfl, hb5⟩
   have HS5 := Lib.hid (HS.out.down hb5)
   clear hb5 q0 q1 q2 q3 q4 q5 q6 q7
   obtain ⟨q0, q1, q2, q3, q4, q5, q6, q7⟩ := HS5.out.var.cells
   by_cases hx : coordB r.x = true
   rotate_left
   ·
    rw [Bool.eq_false_iff.2 hx]
    refine hK _ _ (fun a hF => ?_);clear hK K;revert hF;refine zre 36 [4, 5, 1, 0, 0, 0, 0, 5, 1, 0, 0, 0, 0, 0, 0, 0, 0, 0, 0, 0, 0, 0, 0, 0, 0, 0, 0, 0, 0, 5] [4, 5, 105] fun a hF => ?_
    refine hKA _ _ ⟨?_, HS5⟩
    rw [HT.out, decide_eq_true (Or.inl (Or.inr (Or.inr (Or.inr (Or.inr (Or.inl hx))))))]
    exact hF
   rw [hx]
   refine hK _ _ (fun a hF => ?_);clear hK K;revert hF;refine zrc 36 [4, 5, 1, 4, 4] [41, 42, 43, 44, 45, 46, 47, 48, 49, 50, 51, 52, 53, 54, 55, 56, 57, 58, 59, 60, 61, 62, 63, 64, 65] fun a hF => ?_;revert hF;refine zos fun K hK => ?_
   refine (rcoord_any _ r.y).mono ?_
   rintro e w6 ⟨rfl, hb6⟩
   have HS6 := Lib.hid (HS5.out.down hb6)
   clear hb6 q0 q1 q2 q3 q4 q5 q6 q7
   obtain ⟨q0, q1, q2, q3, q4, q5, q6, q7⟩ := HS6.out.var.cells
   by_cases hy : coordB r.y = true
   rotate_left
   ·
    rw [Bool.eq_false_iff.2 hy]
    refine hK _ _ (fun a hF => ?_);clear hK K;revert hF;refine zre 42 [4, 5, 1, 0, 0, 0, 0, 0, 0, 0, 0, 0, 0, 0, 0, 0, 0, 0, 0, 0, 0, 0, 0, 5] [4, 5, 105] fun a hF => ?_
    refine hKA _ _ ⟨?_, HS6⟩
    rw [HT.out, decide_eq_true (Or.inl (Or.inr (Or.inr (Or.inr (Or.inr (Or.inr hy))))))]
    exact hF
   rw [hy]
   refine hK _ _ (fun a hF => ?_);clear hK K;revert hF;refine zre 42 [4, 5, 1, 4, 4, 4, 4, 5, 1, 0, 0, 0, 0, 0, 0, 0, 0, 0, 0, 0, 0, 0, 5, 5] [4, 5, 105] fun a hF => ?_
   refine hKA _ _ ⟨?_, HS6⟩
   rw [HT.out, decide_eq_false (fun e => e.elim (fun e => by rcases e with e | e | e | e | e | e <;> contradiction) (fun e => h6 e.1))]
   exact hF
  revert hF;refine zrp [4, 4, 4, 1, 4, 4, 4, 4, 5, 5, 1, 4, 4, 4, 5, 1, 4, 4, 4, 5, 1, 4, 4, 4, 1, 0, 0, 0, 0, 0, 5, 5, 1, 4, 4] [35, 36, 37, 38, 39, 40, 41, 42, 43, 44, 45, 46, 47, 48, 49, 50, 51, 52, 53, 54, 55, 56, 57, 58, 59, 60, 61, 62, 63, 64, 65] fun a hF => ?_;revert hF;refine zos fun K hK => ?_
  refine (rcoord_any _ r.x).mono ?_
  rintro e w5 ⟨rfl, hb5⟩
  have HS5 := Lib.hid (HS.out.down hb5)
  clear hb5 q0 q1 q2 q3 q4 q5 q6 q7
  obtain ⟨q0, q1, q2, q3, q4, q5, q6, q7⟩ := HS5.out.var.cells
  by_cases hx : coordB r.x = true
  rotate_left
  ·
   rw [Bool.eq_false_iff.2 hx]
   refine hK _ _ (fun a hF => ?_);clear hK K;revert hF;refine zre 36 [4, 5, 1, 0, 0, 0, 0, 5, 1, 0, 0, 0, 0, 0, 0, 0, 0, 0, 0, 0, 0, 0, 0, 0, 0, 0, 0, 0, 0, 5] [4, 5, 105] fun a hF => ?_
   refine hKA _ _ ⟨?_, HS5⟩
   rw [HT.out, decide_eq_true (Or.inl (Or.inr (Or.inr (Or.inr (Or.inr (Or.inl hx))))))]
   exact hF
  rw [hx]
  refine hK _ _ (fun a hF => ?_);clear hK K;revert hF;refine zrc 36 [4, 5, 1, 4, 4] [41, 42, 43, 44, 45, 46, 47, 48, 49, 50, 51, 52, 53, 54, 55, 56, 57, 58, 59, 60, 61, 62, 63, 64, 65] fun a hF => ?_;revert hF;refine zos fun K hK => ?_
  refine (rcoord_any _ r.y).mono ?_
  rintro e w6 ⟨rfl, hb6⟩
  have HS6 := Lib.hid (HS5.out.down hb6)
  clear hb6 q0 q1 q2 q3 q4 q5 q6 q7
  obtain ⟨q0, q1, q2, q3, q4, q5, q6, q7⟩ := HS6.out.var.cells
  by_cases hy : coordB r.y = true
  rotate_left
  ·
   rw [Bool.eq_false_iff.2 hy]
   refine hK _ _ (fun a hF => ?_);clear hK K;revert hF;refine zre 42 [4, 5, 1, 0, 0, 0, 0, 0, 0, 0, 0, 0, 0, 0, 0, 0, 0, 0, 0, 0, 0, 0, 0, 5] [4, 5, 105] fun a hF => ?_
   refine hKA _ _ ⟨?_, HS6⟩
   rw [HT.out, decide_eq_true (Or.inl (Or.inr (Or.inr (Or.inr (Or.inr (Or.inr hy))))))]
   exact hF
  rw [hy]
  by_cases h6 : r.fr < r.to
  rotate_left
  ·
   refine hK _ _ (fun a hF => ?_);clear hK K;revert hF;refine zre 42 [4, 5, 1, 4, 4, 4, 4, 5, 1, 0, 0, 0, 0, 0, 0, 0, 0, 0, 0, 0, 0, 0, 5, 5] [4, 5, 105] fun a hF => ?_
   refine hKA _ _ ⟨?_, HS6⟩
   rw [HT.out, decide_eq_false (fun e => e.elim (fun e => by rcases e with e | e | e | e | e | e <;> contradiction) (fun e => h6 e.1))]
   exact hF
  obtain ⟨x1, x2⟩ := coordB_iff.1 hx
  obtain ⟨mm, hmm⟩ : ∃ m, m = (r.to - r.fr) * r.step := ⟨_, rfl⟩
  have hm1 : 0 ≤ mm ∧ mm ≤ 100000000 := by
   rw [hmm]
   refine ⟨Int.mul_nonneg (by omega) (by omega), Int.le_trans (Int.mul_le_mul_of_nonneg_right (c := r.step) (show r.to - r.fr ≤ 10000 by omega) (by omega)) (by omega)⟩
  have hw1 : IntKind.i64.wrap (r.to - r.fr) = r.to - r.fr := wrap_in (by omega) (by omega)
  have hw2 : IntKind.i64.wrap ((r.to - r.fr) * r.step) = mm := by rw [hmm]; exact wrap_in (by rw [← hmm]; omega) (by rw [← hmm]; omega)
  have hw3 : IntKind.i64.wrap (r.x + mm) = r.x + mm := wrap_in (by omega) (by omega)
  rw [← hmm] at HT
  clear hmm
  refine hK _ _ (fun a hF => ?_);clear hK K;revert hF;refine zrc 42 [4, 5, 1, 4, 4, 4, 4, 5, 1, 4, 4, 4, 4, 4, 4, 5, 4, 4, 5, 5] [62, 63, 64, 65] fun a hF => ?_;revert hF;refine zos fun K hK => ?_
  refine (rcoord_any _ (r.x + mm)).mono ?_
  rintro e w7 ⟨rfl, hb7⟩
  have HS7 := Lib.hid (HS6.out.down hb7)
  clear hb7 q0 q1 q2 q3 q4 q5 q6 q7
  obtain ⟨q0, q1, q2, q3, q4, q5, q6, q7⟩ := HS7.out.var.cells
  by_cases hz : coordB (r.x + mm) = true
  rotate_left
  ·
   rw [Bool.eq_false_iff.2 hz]
   refine hK _ _ (fun a hF => ?_);clear hK K;revert hF;refine zre 63 [4, 5, 5] [4, 5, 105] fun a hF => ?_
   refine hKA _ _ ⟨?_, HS7⟩
   rw [HT.out, decide_eq_true (Or.inr ⟨h6, Or.inr hz⟩)]
   exact hF
  rw [hz]
  refine hK _ _ (fun a hF => ?_);clear hK K;revert hF;refine zre 63 [4, 5, 5] [4, 5, 105] fun a hF => ?_
  refine hKA _ _ ⟨?_, HS7⟩
  rw [HT.out, decide_eq_false (fun e => e.elim (fun e => by rcases e with e | e | e | e | e | e <;> contradiction) (fun e => e.2.elim h5 (fun k => k hz)))]
  exact hF
 clear hF HS
 rintro a w5 ⟨hF, HS⟩
 obtain ⟨q0, q1, q2, q3, q4, q5, q6, q7⟩ := HS.out.var.cells
 cases T
 rotate_left
 ·
  have HE : Hid (hdF (rowFault b.rows n r) = ⟨2, r.at', -1⟩) := by
   show _ = _
   rw [HAF.out]
   rfl
  refine cond_yes hF rfl ?_
  refine wp_seq_k (fun K hK => ?_);revert hF;refine zrp [4, 4] [2, 3] fun a hF => ?_;revert hF;refine zos fun K hK => ?_
  refine (rfault_any w5 ⟨2, r.at', (-1)⟩).mono ?_
  rintro e wf ⟨rfl, hbf⟩
  have HSf := Lib.hid (HS.out.down hbf)
  clear hbf HS q0 q1 q2 q3 q4 q5 q6 q7
  obtain ⟨wz, hwz, hSV, hlv, HBf⟩ := flt_put 2 r.at' (-1) HSf.out.res HSf.out.below HSf.out.base
  clear HSf
  refine hK _ _ (fun a hF => ?_);clear hK K;refine seq_one ?_;refine op_storev rfl rfl hF rfl rfl rfl rfl hSV ?_;clear hF;refine fun a hF => ?_;refine seq_end ?_;replace hF := hF.kp [4] rfl
  clear hSV hwz
  refine hK _ _ ?_;clear hK
  refine wp_ret ?_
  (try simp only [then_ret, block_ret, goto_ret])
  exact ret_cell (fn := Tryz.f86) rfl hF rfl hlv ⟨by rw [HE.out], HBf.out⟩
 refine cond_no hF rfl ?_
 refine wp_skip ?_
 refine hK _ _ ?_;clear hK;replace hF := hF.kp [4, 5] rfl
 have hnt := of_decide_eq_false HT.out.symm
 simp only [not_or] at hnt
 obtain ⟨⟨a1, a2, a3, _⟩, _⟩ := hnt
 have hws : IntKind.i64.wrap (r.to - r.fr) = r.to - r.fr := wrap_in (by omega) (by omega)
 have hmln := HML.out
 refine wp_seq_k (fun K hK => ?_)
 refine seq_cut (fun a' w' => FrF 238 [] [(4, .pointer (some ⟨gr, 0, none⟩)), (5, .pointer (some ⟨gy, 0, none⟩)), (120, .bool U)] a' ∧ Hid (RrS w w' gx b gr gy r)) (fun KA hKA => ?_) ?_
 ·
  by_cases h1 : 60 ≤ r.to - r.fr
  ·
   revert hF;refine zrg [4, 4, 4, 4, 5, 4, 1, 0, 0, 0, 0, 5] [4, 5, 120] fun a hF => ?_
   refine hKA _ _ ⟨?_, HS⟩
   rw [HU.out, decide_eq_true (Or.inl h1)]
   exact hF
  by_cases h2 : 60 < r.mn
  ·
   have h2i : (60 : Int) < (r.mn : Nat) := by omega
   revert hF;refine zrg [4, 4, 4, 4, 5, 4, 1, 4, 4, 4, 4, 5] [4, 5, 120] fun a hF => ?_
   refine hKA _ _ ⟨?_, HS⟩
   rw [HU.out, decide_eq_true (Or.inr (by omega))]
   exact hF
  have h2i : ¬ (60 : Int) < (r.mn : Nat) := by omega
  revert hF;refine zrg [4, 4, 4, 4, 5, 4, 1, 4, 4, 4, 4, 5] [4, 5, 120] fun a hF => ?_
  refine hKA _ _ ⟨?_, HS⟩
  rw [HU.out, decide_eq_false (fun e => e.elim h1 (fun e => by omega))]
  exact hF
 clear hF HS q0 q1 q2 q3 q4 q5 q6 q7 hws
 rintro a w6 ⟨hF, HS⟩
 obtain ⟨q0, q1, q2, q3, q4, q5, q6, q7⟩ := HS.out.var.cells
 cases U
 rotate_left
 ·
  have HE : Hid (hdF (rowFault b.rows n r) = ⟨3, r.at', -1⟩) := by
   show _ = _
   rw [HAF.out]
   rfl
  refine cond_yes hF rfl ?_
  refine wp_seq_k (fun K hK => ?_);revert hF;refine zrp [4, 4] [2, 3] fun a hF => ?_;revert hF;refine zos fun K hK => ?_
  refine (rfault_any w6 ⟨3, r.at', (-1)⟩).mono ?_
  rintro e wf ⟨rfl, hbf⟩
  have HSf := Lib.hid (HS.out.down hbf)
  clear hbf HS q0 q1 q2 q3 q4 q5 q6 q7
  obtain ⟨wz, hwz, hSV, hlv, HBf⟩ := flt_put 3 r.at' (-1) HSf.out.res HSf.out.below HSf.out.base
  clear HSf
  refine hK _ _ (fun a hF => ?_);clear hK K;refine seq_one ?_;refine op_storev rfl rfl hF rfl rfl rfl rfl hSV ?_;clear hF;refine fun a hF => ?_;refine seq_end ?_;replace hF := hF.kp [4] rfl
  clear hSV hwz
  refine hK _ _ ?_;clear hK
  refine wp_ret ?_
  (try simp only [then_ret, block_ret, goto_ret])
  exact ret_cell (fn := Tryz.f86) rfl hF rfl hlv ⟨by rw [HE.out], HBf.out⟩
 refine cond_no hF rfl ?_
 refine wp_skip ?_
 refine hK _ _ ?_;clear hK;replace hF := hF.kp [4, 5] rfl
 clear q0 q1 q2 q3 q4 q5 q6 q7
 have HAM : Hid (∀ k, marksS r = k → hdF (rowFault b.rows n r) = if k = 0 then ⟨0, 0, 0⟩ else ⟨k, r.at', -1⟩) := fun k hk => by
  rw [HAF.out, hk]
  by_cases e : k = 0
  ·
   rw [if_neg (by decide), if_neg (by decide), if_pos e, if_pos e]
   rfl
  ·
   rw [if_neg (by decide), if_neg (by decide), if_neg e, if_neg e]
   rfl
 clear HAF HT HU
 refine seq_cut (fun a' w' => FrF 238 [] [(4, .pointer (some ⟨gr, 0, none⟩)), (5, .pointer (some ⟨gy, 0, none⟩))] a' ∧ Hid (RrS w w' gx b gr gy r) ∧ Hid (∀ j (hj : j < r.marks.length), j < r.mn → kndB r.marks[j] = false)) (fun KA hKA => ?_) ?_
 ·
  skip
  revert hF;refine zrs [2] [4, 5, 7] fun a hF => ?_
  refine wp_block ?_
  refine loop_fr (fun q a' w' => ∃ i : Nat, i + q = r.mn ∧ FrF 238 [] [(4, .pointer (some ⟨gr, 0, none⟩)), (5, .pointer (some ⟨gy, 0, none⟩)), (7, .int .i64 i)] a' ∧ Hid (RrS w w' gx b gr gy r) ∧ Hid (∀ j (hj : j < r.marks.length), j < i → kndB r.marks[j] = false)) r.mn ⟨0, by omega, hF, HS, fun j _ h => by omega⟩ ?_
  clear hF HS
  rintro rk a wr ⟨i, hik, hF, HS, HLO⟩ KB hKB
  refine wp_seq_k (fun K hK => ?_)
  obtain ⟨q0, q1, q2, q3, q4, q5, q6, q7⟩ := HS.out.var.cells
  by_cases hlt : i < r.mn
  rotate_left
  ·
   have hlti : ¬ (i : Int) < (r.mn : Nat) := by omega
   revert hF;refine zrs [1, 4, 4, 4, 5] [4, 5, 7, 128] fun a hF => ?_
   clear q0 q1 q2 q3 q4 q5 q6 q7
   refine cond_no hF rfl ?_
   refine wp_exit ?_
   have hie : i = r.mn := by omega
   rw [hie] at HLO
   exact hKA _ _ ⟨hF.sub ⟨rfl, rfl, trivial⟩, HS, HLO⟩
  have hlti : (i : Int) < (r.mn : Nat) := by omega
  revert hF;refine zrs [1, 4, 4, 4, 5] [4, 5, 7, 128] fun a hF => ?_
  clear q0 q1 q2 q3 q4 q5 q6 q7
  refine cond_yes hF rfl ?_
  refine wp_skip ?_
  refine hK _ _ ?_;clear hK;replace hF := hF.kp [4, 5, 7] rfl
  clear hKA
  have hil : i < r.marks.length := by rw [HML.out]; exact hlt
  have HSd : Hid (RrS w wr gx b gr gy r) := HS.out.down (Below.refl _ _)
  clear HS
  obtain ⟨q0, q1, q2, q3, q4, q5, q6, q7⟩ := HSd.out.var.cells
  obtain ⟨bB, oB, hma, e0, e1, e2⟩ := mark_at (HRI.out.marks.below HSd.out.below) i hlt hil
  have HMA := Lib.hid hma
  rw [hma] at q6
  clear hma
  obtain ⟨m, hm⟩ : ∃ m, m = r.marks[i] := ⟨_, rfl⟩
  have Hm := Lib.hid hm
  rw [← hm] at e0 e1 e2
  clear hm
  have hlti : (i : Int) < (r.mn : Nat) := by omega
  refine wp_seq_k (fun KC hKC => ?_)
  refine wp_block ?_
  refine seq_cut (fun a' w' => FrF 238 [] [(4, .pointer (some ⟨gr, 0, none⟩)), (5, .pointer (some ⟨gy, 0, none⟩)), (7, .int .i64 i), (146, .bool (kndB m))] a' ∧ Hid (RrS w w' gx b gr gy r)) (fun KT hKT => ?_) ?_
  ·
   by_cases k1 : m.kind < 1
   ·
    have hp : kndB m = true := by unfold kndB; simp [k1]
    rw [hp] at hKT
    revert hF;refine zrg [4, 4, 1, 5, 4, 4, 4, 1, 0, 0, 0, 0, 0, 0, 0, 5] [4, 5, 7, 146] fun a hF => ?_
    exact hKT _ _ ⟨hF, HSd⟩
   by_cases k2 : 4 < m.kind
   ·
    have hp : kndB m = true := by unfold kndB; simp [k2]
    rw [hp] at hKT
    revert hF;refine zrg [4, 4, 1, 5, 4, 4, 4, 1, 4, 4, 1, 5, 4, 4, 4, 5] [4, 5, 7, 146] fun a hF => ?_
    exact hKT _ _ ⟨hF, HSd⟩
   have hp : kndB m = false := by unfold kndB; simp [k1, k2]
   rw [hp] at hKT
   revert hF;refine zrg [4, 4, 1, 5, 4, 4, 4, 1, 4, 4, 1, 5, 4, 4, 4, 5] [4, 5, 7, 146] fun a hF => ?_
   exact hKT _ _ ⟨hF, HSd⟩
  clear hF HSd q0 q1 q2 q3 q4 q5 q6 q7 e0 e1 e2
  rintro a wt ⟨hF, HS⟩
  obtain ⟨y, hy⟩ : ∃ y, kndB m = y := ⟨_, rfl⟩
  rw [hy] at hF
  rw [Hm.out] at hy
  cases y
  rotate_left
  ·
   have HE : Hid (hdF (rowFault b.rows n r) = ⟨1, r.at', -1⟩) := HAM.out 1 (marks1 hil hy)
   refine cond_yes hF rfl ?_
   obtain ⟨q0, q1, q2, q3, q4, q5, q6, q7⟩ := HS.out.var.cells
   refine wp_seq_k (fun K hK => ?_);revert hF;refine zrp [4, 4] [2, 3] fun a hF => ?_;revert hF;refine zos fun K hK => ?_
   refine (rfault_any _ ⟨1, r.at', (-1)⟩).mono ?_
   rintro e wf ⟨rfl, hbf⟩
   have HSf := Lib.hid (HS.out.down hbf)
   clear hbf HS q0 q1 q2 q3 q4 q5 q6 q7
   obtain ⟨wz, hwz, hSV, hlv, HBf⟩ := flt_put 1 r.at' (-1) HSf.out.res HSf.out.below HSf.out.base
   clear HSf
   refine hK _ _ (fun a hF => ?_);clear hK K;refine seq_one ?_;refine op_storev rfl rfl hF rfl rfl rfl rfl hSV ?_;clear hF;refine fun a hF => ?_;refine seq_end ?_;replace hF := hF.kp [4] rfl
   clear hSV hwz
   refine hK _ _ ?_;clear hK
   refine wp_ret ?_
   (try simp only [then_ret, block_ret, goto_ret])
   exact ret_cell (fn := Tryz.f86) rfl hF rfl hlv ⟨by rw [HE.out], HBf.out⟩
  refine cond_no hF rfl ?_
  refine wp_skip ?_
  refine hKC _ _ ?_;clear hKC
  have hws : IntKind.i64.wrap ((i : Int) + 1) = ((i + 1 : Nat) : Int) := wrap_succ (by omega)
  revert hF;refine zrg [1, 4, 2] [4, 5, 7] fun a hF => ?_
  exact hKB (r.mn - (i + 1)) _ _ (by omega) ⟨i + 1, by omega, hF, HS, fun j hj hlt => by
    by_cases e : j = i
    ·
     subst e
     exact hy
    ·
     exact HLO.out j hj (by omega)⟩
 clear hF HS
 rintro a w11 ⟨hF, HS, H1⟩
 have H1A : Hid (∀ j (hj : j < r.marks.length), kndB r.marks[j] = false) := fun j hj => H1.out j hj (by have := HML.out; omega)
 clear H1
 refine seq_cut (fun a' w' => FrF 238 [] [(4, .pointer (some ⟨gr, 0, none⟩)), (5, .pointer (some ⟨gy, 0, none⟩))] a' ∧ Hid (RrS w w' gx b gr gy r) ∧ Hid (∀ j (hj : j < r.marks.length), j < r.mn → setB r r.marks[j] = false)) (fun KA hKA => ?_) ?_
 ·
  skip
  revert hF;refine zrs [2] [4, 5, 8] fun a hF => ?_
  refine wp_block ?_
  refine loop_fr (fun q a' w' => ∃ i : Nat, i + q = r.mn ∧ FrF 238 [] [(4, .pointer (some ⟨gr, 0, none⟩)), (5, .pointer (some ⟨gy, 0, none⟩)), (8, .int .i64 i)] a' ∧ Hid (RrS w w' gx b gr gy r) ∧ Hid (∀ j (hj : j < r.marks.length), j < i → setB r r.marks[j] = false)) r.mn ⟨0, by omega, hF, HS, fun j _ h => by omega⟩ ?_
  clear hF HS
  rintro rk a wr ⟨i, hik, hF, HS, HLO⟩ KB hKB
  refine wp_seq_k (fun K hK => ?_)
  obtain ⟨q0, q1, q2, q3, q4, q5, q6, q7⟩ := HS.out.var.cells
  by_cases hlt : i < r.mn
  rotate_left
  ·
   have hlti : ¬ (i : Int) < (r.mn : Nat) := by omega
   revert hF;refine zrs [1, 4, 4, 4, 5] [4, 5, 8, 154] fun a hF => ?_
   clear q0 q1 q2 q3 q4 q5 q6 q7
   refine cond_no hF rfl ?_
   refine wp_exit ?_
   have hie : i = r.mn := by omega
   rw [hie] at HLO
   exact hKA _ _ ⟨hF.sub ⟨rfl, rfl, trivial⟩, HS, HLO⟩
  have hlti : (i : Int) < (r.mn : Nat) := by omega
  revert hF;refine zrs [1, 4, 4, 4, 5] [4, 5, 8, 154] fun a hF => ?_
  clear q0 q1 q2 q3 q4 q5 q6 q7
  refine cond_yes hF rfl ?_
  refine wp_skip ?_
  refine hK _ _ ?_;clear hK;replace hF := hF.kp [4, 5, 8] rfl
  clear hKA
  have hil : i < r.marks.length := by rw [HML.out]; exact hlt
  have HSd : Hid (RrS w wr.drew gx b gr gy r) := HS.out.down (below_d (Below.refl _ _))
  clear HS
  obtain ⟨q0, q1, q2, q3, q4, q5, q6, q7⟩ := HSd.out.var.cells
  obtain ⟨bB, oB, hma, e0, e1, e2⟩ := mark_at (HRI.out.marks.below HSd.out.below) i hlt hil
  have HMA := Lib.hid hma
  rw [hma] at q6
  clear hma
  obtain ⟨m, hm⟩ : ∃ m, m = r.marks[i] := ⟨_, rfl⟩
  have Hm := Lib.hid hm
  rw [← hm] at e0 e1 e2
  clear hm
  have hlti : (i : Int) < (r.mn : Nat) := by omega
  refine wp_seq_k (fun KC hKC => ?_)
  refine wp_block ?_
  refine seq_cut (fun a' w' => FrF 238 [] [(4, .pointer (some ⟨gr, 0, none⟩)), (5, .pointer (some ⟨gy, 0, none⟩)), (8, .int .i64 i), (176, .bool (setB r m))] a' ∧ Hid (RrS w w' gx b gr gy r)) (fun KT hKT => ?_) ?_
  ·
   by_cases k1 : m.seat < r.fr
   ·
    have hp : setB r m = true := by unfold setB; simp [k1]
    rw [hp] at hKT
    refine region_any (by kernel_rfl) ?_;revert hF;refine zrb (fuel := 0) [9, 52, 65, 106, 137, 180, 201, 244, 266, 289, 320, 368, 384, 416, 448, 496, 512, 560, 576, 618] [4, 5, 8, 176] fun a hF => ?_
    exact hKT _ _ ⟨hF, HSd⟩
   by_cases k2 : r.to < m.seat
   ·
    have hp : setB r m = true := by unfold setB; simp [k2]
    rw [hp] at hKT
    refine region_any (by kernel_rfl) ?_;revert hF;refine zrb (fuel := 0) [9, 52, 65, 106, 137, 180, 201, 244, 266, 289, 329, 372, 385, 426, 457, 500, 521, 564, 586, 618] [4, 5, 8, 176] fun a hF => ?_
    exact hKT _ _ ⟨hF, HSd⟩
   have hp : setB r m = false := by unfold setB; simp [k1, k2]
   rw [hp] at hKT
   refine region_any (by kernel_rfl) ?_;revert hF;refine zrb (fuel := 0) [9, 52, 65, 106, 137, 180, 201, 244, 266, 289, 329, 372, 385, 426, 457, 500, 521, 564, 586, 618] [4, 5, 8, 176] fun a hF => ?_
   exact hKT _ _ ⟨hF, HSd⟩
  clear hF HSd q0 q1 q2 q3 q4 q5 q6 q7 e0 e1 e2
  rintro a wt ⟨hF, HS⟩
  obtain ⟨y, hy⟩ : ∃ y, setB r m = y := ⟨_, rfl⟩
  rw [hy] at hF
  rw [Hm.out] at hy
  cases y
  rotate_left
  ·
   have HE : Hid (hdF (rowFault b.rows n r) = ⟨11, r.at', -1⟩) := HAM.out 11 (marks2 H1A.out hil hy)
   refine cond_yes hF rfl ?_
   obtain ⟨q0, q1, q2, q3, q4, q5, q6, q7⟩ := HS.out.var.cells
   refine wp_seq_k (fun K hK => ?_);revert hF;refine zrp [4, 4] [2, 3] fun a hF => ?_;revert hF;refine zos fun K hK => ?_
   refine (rfault_any _ ⟨11, r.at', (-1)⟩).mono ?_
   rintro e wf ⟨rfl, hbf⟩
   have HSf := Lib.hid (HS.out.down hbf)
   clear hbf HS q0 q1 q2 q3 q4 q5 q6 q7
   obtain ⟨wz, hwz, hSV, hlv, HBf⟩ := flt_put 11 r.at' (-1) HSf.out.res HSf.out.below HSf.out.base
   clear HSf
   refine hK _ _ (fun a hF => ?_);clear hK K;refine seq_one ?_;refine op_storev rfl rfl hF rfl rfl rfl rfl hSV ?_;clear hF;refine fun a hF => ?_;refine seq_end ?_;replace hF := hF.kp [4] rfl
   clear hSV hwz
   refine hK _ _ ?_;clear hK
   refine wp_ret ?_
   (try simp only [then_ret, block_ret, goto_ret])
   exact ret_cell (fn := Tryz.f86) rfl hF rfl hlv ⟨by rw [HE.out], HBf.out⟩
  refine cond_no hF rfl ?_
  refine wp_skip ?_
  refine hKC _ _ ?_;clear hKC
  have hws : IntKind.i64.wrap ((i : Int) + 1) = ((i + 1 : Nat) : Int) := wrap_succ (by omega)
  revert hF;refine zrg [1, 4, 2] [4, 5, 8] fun a hF => ?_
  exact hKB (r.mn - (i + 1)) _ _ (by omega) ⟨i + 1, by omega, hF, HS, fun j hj hlt => by
    by_cases e : j = i
    ·
     subst e
     exact hy
    ·
     exact HLO.out j hj (by omega)⟩
 clear hF HS
 rintro a w16 ⟨hF, HS, H2⟩
 have H2A : Hid (∀ j (hj : j < r.marks.length), setB r r.marks[j] = false) := fun j hj => H2.out j hj (by have := HML.out; omega)
 clear H2
 refine seq_cut (fun a' w' => FrF 238 [] [(4, .pointer (some ⟨gr, 0, none⟩)), (5, .pointer (some ⟨gy, 0, none⟩))] a' ∧ Hid (RrS w w' gx b gr gy r) ∧ Hid (∀ i' (hi' : i' < r.marks.length) k (hk : k < i'), i' < r.mn → r.marks[i'].seat ≠ r.marks[k].seat)) (fun KA hKA => ?_) ?_
 ·
  skip
  revert hF;refine zrs [2] [4, 5, 9] fun a hF => ?_
  refine wp_block ?_
  refine loop_fr (fun q a' w' => ∃ i : Nat, i + q = r.mn ∧ FrF 238 [] [(4, .pointer (some ⟨gr, 0, none⟩)), (5, .pointer (some ⟨gy, 0, none⟩)), (9, .int .i64 i)] a' ∧ Hid (RrS w w' gx b gr gy r) ∧ Hid (∀ i' (hi' : i' < r.marks.length) k (hk : k < i'), i' < i → r.marks[i'].seat ≠ r.marks[k].seat)) r.mn ⟨0, by omega, hF, HS, fun i' _ k _ h => by omega⟩ ?_
  clear hF HS
  rintro rk a wr ⟨i, hik, hF, HS, HLO⟩ KB hKB
  refine wp_seq_k (fun K hK => ?_)
  obtain ⟨q0, q1, q2, q3, q4, q5, q6, q7⟩ := HS.out.var.cells
  by_cases hlt : i < r.mn
  rotate_left
  ·
   have hlti : ¬ (i : Int) < (r.mn : Nat) := by omega
   revert hF;refine zrs [1, 4, 4, 4, 5] [4, 5, 9, 184] fun a hF => ?_
   clear q0 q1 q2 q3 q4 q5 q6 q7
   refine cond_no hF rfl ?_
   refine wp_exit ?_
   have hie : i = r.mn := by omega
   rw [hie] at HLO
   exact hKA _ _ ⟨hF.sub ⟨rfl, rfl, trivial⟩, HS, HLO⟩
  have hlti : (i : Int) < (r.mn : Nat) := by omega
  revert hF;refine zrs [1, 4, 4, 4, 5] [4, 5, 9, 184] fun a hF => ?_
  clear q0 q1 q2 q3 q4 q5 q6 q7
  refine cond_yes hF rfl ?_
  refine wp_skip ?_
  refine hK _ _ ?_;clear hK;replace hF := hF.kp [4, 5, 9] rfl
  clear hKA
  have hil : i < r.marks.length := by rw [HML.out]; exact hlt
  refine seq_cut (fun a' w' => FrF 238 [] [(4, .pointer (some ⟨gr, 0, none⟩)), (5, .pointer (some ⟨gy, 0, none⟩)), (9, .int .i64 i)] a' ∧ Hid (RrS w w' gx b gr gy r) ∧ Hid (∀ k (hk : k < i), r.marks[i].seat ≠ r.marks[k].seat)) (fun KC hKC => ?_) ?_
  rotate_left
  ·
   clear hF HS
   rintro a w' ⟨hF, HS, HP⟩
   have hws : IntKind.i64.wrap ((i : Int) + 1) = ((i + 1 : Nat) : Int) := wrap_succ (by omega)
   revert hF;refine zrg [1, 4, 2] [4, 5, 9] fun a hF => ?_
   exact hKB (r.mn - (i + 1)) _ _ (by omega) ⟨i + 1, by omega, hF, HS, fun i' hi' k hk hlt => by
    by_cases e : i' = i
    ·
     subst e
     exact HP.out k hk
    ·
     exact HLO.out i' hi' k hk (by omega)⟩
  clear hKB
  refine wp_block ?_
  revert hF;refine zrs [2] [4, 5, 9, 10] fun a hF => ?_
  refine wp_block ?_
  refine loop_fr (fun q a' w' => ∃ k : Nat, k + q = i ∧ FrF 238 [] [(4, .pointer (some ⟨gr, 0, none⟩)), (5, .pointer (some ⟨gy, 0, none⟩)), (9, .int .i64 i), (10, .int .i64 k)] a' ∧ Hid (RrS w w' gx b gr gy r) ∧ Hid (∀ k' (hk' : k' < i), k' < k → r.marks[i].seat ≠ r.marks[k'].seat)) i ⟨0, by omega, hF, HS, fun k' _ h => by omega⟩ ?_
  clear hF HS
  rintro rk a wr ⟨k, hkk, hF, HS, HPI⟩ KE hKE
  refine wp_seq_k (fun K hK => ?_)
  by_cases hltk : k < i
  rotate_left
  ·
   have hlti : ¬ (k : Int) < (i : Int) := by omega
   revert hF;refine zrs [1, 1, 5] [4, 5, 9, 10, 189] fun a hF => ?_
   refine cond_no hF rfl ?_
   refine wp_exit ?_
   exact hKC _ _ ⟨hF.sub ⟨rfl, rfl, rfl, trivial⟩, HS, fun k' hk' => HPI.out k' hk' (by omega)⟩
  have hlti : (k : Int) < (i : Int) := by omega
  revert hF;refine zrs [1, 1, 5] [4, 5, 9, 10, 189] fun a hF => ?_
  refine cond_yes hF rfl ?_
  refine wp_skip ?_
  refine hK _ _ ?_;clear hK;replace hF := hF.kp [4, 5, 9, 10] rfl
  clear hKC hlti
  have hkl : k < r.marks.length := by omega
  have hkm : k < r.mn := by omega
  have HSd : Hid (RrS w wr.drew gx b gr gy r) := HS.out.down (below_d (Below.refl _ _))
  clear HS
  obtain ⟨q0, q1, q2, q3, q4, q5, q6, q7⟩ := HSd.out.var.cells
  obtain ⟨bB, oB, hma, e0, e1, e2⟩ := mark_at (HRI.out.marks.below HSd.out.below) i hlt hil
  obtain ⟨bC, oC, hma2, d0, d1, d2⟩ := mark_at (HRI.out.marks.below HSd.out.below) k hkm hkl
  obtain ⟨rfl, rfl⟩ : bC = bB ∧ oC = oB := by rw [hma] at hma2; simpa using hma2.symm
  rw [hma] at q6
  clear hma hma2
  obtain ⟨m, hm⟩ : ∃ m, m = r.marks[i] := ⟨_, rfl⟩
  have Hm := Lib.hid hm
  rw [← hm] at e0 e1 e2
  obtain ⟨m2, hm2⟩ : ∃ m, m = r.marks[k] := ⟨_, rfl⟩
  have Hm2 := Lib.hid hm2
  rw [← hm2] at d0 d1 d2
  clear hm hm2
  have hii : (i : Int) < (r.mn : Nat) := by omega
  have hki : (k : Int) < (r.mn : Nat) := by omega
  refine wp_seq_k (fun KC hKC => ?_)
  refine wp_block ?_
  refine wp_seq_k (fun K hK => ?_)
  by_cases hse : m.seat = m2.seat
  ·
   have hsb : (m.seat == m2.seat) = true := by simp [hse]
   have HE : Hid (hdF (rowFault b.rows n r) = ⟨9, r.at', -1⟩) := HAM.out 9 (marks3 H1A.out H2A.out hil hltk (by rw [← Hm.out, ← Hm2.out]; exact hse))
   clear hse
   refine region_any (by kernel_rfl) ?_;revert hF;refine zrb (fuel := 0) [9, 52, 65, 106, 137, 180, 201, 244, 257, 298, 329, 372, 394] [4, 5, 9, 10, 204] fun a hF => ?_
   clear q0 q1 q2 q3 q4 q5 q6 q7 e0 e1 e2 d0 d1 d2 hsb
   refine hK _ _ ?_;clear hK
   refine cond_yes hF rfl ?_
   obtain ⟨q0, q1, q2, q3, q4, q5, q6, q7⟩ := HSd.out.var.cells
   refine wp_seq_k (fun K hK => ?_);revert hF;refine zrp [4, 4] [2, 3] fun a hF => ?_;revert hF;refine zos fun K hK => ?_
   refine (rfault_any _ ⟨9, r.at', (-1)⟩).mono ?_
   rintro e wf ⟨rfl, hbf⟩
   have HSf := Lib.hid (HSd.out.down hbf)
   clear hbf HSd q0 q1 q2 q3 q4 q5 q6 q7
   obtain ⟨wz, hwz, hSV, hlv, HBf⟩ := flt_put 9 r.at' (-1) HSf.out.res HSf.out.below HSf.out.base
   clear HSf
   refine hK _ _ (fun a hF => ?_);clear hK K;refine seq_one ?_;refine op_storev rfl rfl hF rfl rfl rfl rfl hSV ?_;clear hF;refine fun a hF => ?_;refine seq_end ?_;replace hF := hF.kp [4] rfl
   clear hSV hwz
   refine hK _ _ ?_;clear hK
   refine wp_ret ?_
   (try simp only [then_ret, block_ret, goto_ret])
   exact ret_cell (fn := Tryz.f86) rfl hF rfl hlv ⟨by rw [HE.out], HBf.out⟩
  have hsb : (m.seat == m2.seat) = false := by simp [hse]
  refine region_any (by kernel_rfl) ?_;revert hF;refine zrb (fuel := 0) [9, 52, 65, 106, 137, 180, 201, 244, 257, 298, 329, 372, 394] [4, 5, 9, 10, 204] fun a hF => ?_
  clear q0 q1 q2 q3 q4 q5 q6 q7 e0 e1 e2 d0 d1 d2 hsb
  refine hK _ _ ?_;clear hK
  refine cond_no hF rfl ?_
  refine wp_skip ?_
  refine hKC _ _ ?_;clear hKC
  have hws : IntKind.i64.wrap ((k : Int) + 1) = ((k + 1 : Nat) : Int) := wrap_succ (by omega)
  revert hF;refine zrg [1, 4, 2] [4, 5, 9, 10] fun a hF => ?_
  exact hKE (i - (k + 1)) _ _ (by omega) ⟨k + 1, by omega, hF, HSd, fun k' hk' hlt => by
   by_cases e : k' = k
   ·
    subst e
    rw [← Hm.out, ← Hm2.out]
    exact hse
   ·
    exact HPI.out k' hk' (by omega)⟩
 clear hF HS
 rintro a w21 ⟨hF, HS, H3⟩
 have H3A : Hid (∀ i (hi : i < r.marks.length) k (hk : k < i), r.marks[i].seat ≠ r.marks[k].seat) := fun i hi k hk => H3.out i hi k hk (by have := HML.out; omega)
 clear H3
 refine seq_cut (fun a' w' => FrF 238 [] [(4, .pointer (some ⟨gr, 0, none⟩)), (5, .pointer (some ⟨gy, 0, none⟩))] a' ∧ Hid (RrS w w' gx b gr gy r) ∧ Hid (∀ j (hj : j < r.marks.length), j < r.mn → bsdB r r.marks[j] = false)) (fun KA hKA => ?_) ?_
 ·
  skip
  revert hF;refine zrs [2] [4, 5, 11] fun a hF => ?_
  refine wp_block ?_
  refine loop_fr (fun q a' w' => ∃ i : Nat, i + q = r.mn ∧ FrF 238 [] [(4, .pointer (some ⟨gr, 0, none⟩)), (5, .pointer (some ⟨gy, 0, none⟩)), (11, .int .i64 i)] a' ∧ Hid (RrS w w' gx b gr gy r) ∧ Hid (∀ j (hj : j < r.marks.length), j < i → bsdB r r.marks[j] = false)) r.mn ⟨0, by omega, hF, HS, fun j _ h => by omega⟩ ?_
  clear hF HS
  rintro rk a wr ⟨i, hik, hF, HS, HLO⟩ KB hKB
  refine wp_seq_k (fun K hK => ?_)
  obtain ⟨q0, q1, q2, q3, q4, q5, q6, q7⟩ := HS.out.var.cells
  by_cases hlt : i < r.mn
  rotate_left
  ·
   have hlti : ¬ (i : Int) < (r.mn : Nat) := by omega
   revert hF;refine zrs [1, 4, 4, 4, 5] [4, 5, 11, 212] fun a hF => ?_
   clear q0 q1 q2 q3 q4 q5 q6 q7
   refine cond_no hF rfl ?_
   refine wp_exit ?_
   have hie : i = r.mn := by omega
   rw [hie] at HLO
   exact hKA _ _ ⟨hF.sub ⟨rfl, rfl, trivial⟩, HS, HLO⟩
  have hlti : (i : Int) < (r.mn : Nat) := by omega
  revert hF;refine zrs [1, 4, 4, 4, 5] [4, 5, 11, 212] fun a hF => ?_
  clear q0 q1 q2 q3 q4 q5 q6 q7
  refine cond_yes hF rfl ?_
  refine wp_skip ?_
  refine hK _ _ ?_;clear hK;replace hF := hF.kp [4, 5, 11] rfl
  clear hKA
  have hil : i < r.marks.length := by rw [HML.out]; exact hlt
  have HSd : Hid (RrS w wr.drew gx b gr gy r) := HS.out.down (below_d (Below.refl _ _))
  clear HS
  obtain ⟨q0, q1, q2, q3, q4, q5, q6, q7⟩ := HSd.out.var.cells
  obtain ⟨bB, oB, hma, e0, e1, e2⟩ := mark_at (HRI.out.marks.below HSd.out.below) i hlt hil
  have HMA := Lib.hid hma
  rw [hma] at q6
  clear hma
  obtain ⟨m, hm⟩ : ∃ m, m = r.marks[i] := ⟨_, rfl⟩
  have Hm := Lib.hid hm
  rw [← hm] at e0 e1 e2
  clear hm
  have hlti : (i : Int) < (r.mn : Nat) := by omega
  refine wp_seq_k (fun KC hKC => ?_)
  refine wp_block ?_
  refine wp_seq_k (fun K hK => ?_)
  by_cases k1 : m.kind = 4
  rotate_left
  ·
   have hkb : (m.kind == 4) = false := by simp [k1]
   have hy : bsdB r r.marks[i] = false := by
    rw [← Hm.out]
    unfold bsdB
    simp [k1]
   have HS := HSd
   refine region_any (by kernel_rfl) ?_;revert hF;refine zrb (fuel := 0) [9, 52, 65, 106, 137, 180, 201, 225, 272, 288, 336, 352, 384, 416, 464, 496, 512, 544, 586] [4, 5, 11, 233] fun a hF => ?_
   clear q0 q1 q2 q3 q4 q5 q6 q7 e0 e1 e2 hkb
   refine hK _ _ ?_;clear hK
   refine cond_no hF rfl ?_
   refine wp_skip ?_
   refine hKC _ _ ?_;clear hKC
   have hws : IntKind.i64.wrap ((i : Int) + 1) = ((i + 1 : Nat) : Int) := wrap_succ (by omega)
   revert hF;refine zrg [1, 4, 2] [4, 5, 11] fun a hF => ?_
   exact hKB (r.mn - (i + 1)) _ _ (by omega) ⟨i + 1, by omega, hF, HS, fun j hj hlt => by
     by_cases e : j = i
     ·
      subst e
      exact hy
     ·
      exact HLO.out j hj (by omega)⟩
  have hkb : (m.kind == 4) = true := by simp [k1]
  have hbs : bsdB r m = !decide ((markS r.marks m.wth).kind = 2) := by unfold bsdB; simp [k1]
  have hfm := run_field_mark
  clear k1
  refine region_any (by kernel_rfl) ?_;revert hF;refine zra (fuel := 4) [9, 52, 65, 106, 137, 180, 201, 225, 276, 297, 340, 353, 394, 425, 468] [15] fun a hF => ?_;refine any_one (n := 15) (fuel := 3) (by kernel_rfl) ?_;revert hF;refine zoc fun K hK => ?_
  have hC := refmark_any wr.drew r m.wth (HRI.out.below HSd.out.below)
  rw [HMA.out] at hC
  refine hC.mono ?_
  rintro e w8 ⟨rfl, hb8⟩
  have HS := Lib.hid (HSd.out.down hb8)
  clear hC HSd hb8 q0 q1 q2 q3 q4 q5 q6 q7 e0 e1 e2 hkb
  generalize (markS r.marks m.wth).kind = mk at *
  generalize (markS r.marks m.wth).seat = mk2 at *
  generalize (markS r.marks m.wth).wth = mk3 at *
  by_cases hk : mk = 2
  ·
   have hkb : (mk != 2) = false := by simp [hk]
   have hy : bsdB r r.marks[i] = false := by rw [← Hm.out, hbs]; simp [hk]
   clear hbs
   refine hK _ _ (fun a hF => ?_);clear hK K;revert hF;refine zrb (fuel := 0) [521, 553, 586] [4, 5, 11, 233] fun a hF => ?_;refine hK _ _ ?_;clear hK
   refine cond_no hF rfl ?_
   refine wp_skip ?_
   refine hKC _ _ ?_;clear hKC
   have hws : IntKind.i64.wrap ((i : Int) + 1) = ((i + 1 : Nat) : Int) := wrap_succ (by omega)
   revert hF;refine zrg [1, 4, 2] [4, 5, 11] fun a hF => ?_
   exact hKB (r.mn - (i + 1)) _ _ (by omega) ⟨i + 1, by omega, hF, HS, fun j hj hlt => by
     by_cases e : j = i
     ·
      subst e
      exact hy
     ·
      exact HLO.out j hj (by omega)⟩
  have hkb : (mk != 2) = true := by simp [hk]
  have hy : bsdB r r.marks[i] = true := by rw [← Hm.out, hbs]; simp [hk]
  clear hbs
  refine hK _ _ (fun a hF => ?_);clear hK K;revert hF;refine zrb (fuel := 0) [521, 553, 586] [4, 5, 11, 233] fun a hF => ?_;refine hK _ _ ?_;clear hK
  have HE : Hid (hdF (rowFault b.rows n r) = ⟨11, r.at', -1⟩) := HAM.out 11 (marks4 H1A.out H2A.out H3A.out hil hy)
  refine cond_yes hF rfl ?_
  obtain ⟨q0, q1, q2, q3, q4, q5, q6, q7⟩ := HS.out.var.cells
  refine wp_seq_k (fun K hK => ?_);revert hF;refine zrp [4, 4] [2, 3] fun a hF => ?_;revert hF;refine zos fun K hK => ?_
  refine (rfault_any _ ⟨11, r.at', (-1)⟩).mono ?_
  rintro e wf ⟨rfl, hbf⟩
  have HSf := Lib.hid (HS.out.down hbf)
  clear hbf HS q0 q1 q2 q3 q4 q5 q6 q7
  obtain ⟨wz, hwz, hSV, hlv, HBf⟩ := flt_put 11 r.at' (-1) HSf.out.res HSf.out.below HSf.out.base
  clear HSf
  refine hK _ _ (fun a hF => ?_);clear hK K;refine seq_one ?_;refine op_storev rfl rfl hF rfl rfl rfl rfl hSV ?_;clear hF;refine fun a hF => ?_;refine seq_end ?_;replace hF := hF.kp [4] rfl
  clear hSV hwz
  refine hK _ _ ?_;clear hK
  refine wp_ret ?_
  (try simp only [then_ret, block_ret, goto_ret])
  exact ret_cell (fn := Tryz.f86) rfl hF rfl hlv ⟨by rw [HE.out], HBf.out⟩
 clear hF HS
 rintro a w29 ⟨hF, HS, H4⟩
 have HE : Hid (hdF (rowFault b.rows n r) = ⟨0, 0, 0⟩) := HAM.out 0 (marks5 H1A.out H2A.out H3A.out (fun j hj => H4.out j hj (by have := HML.out; omega)))
 refine wp_seq_k (fun K hK => ?_);refine region_seq (l := [0, 1]) (by kernel_rfl) ?_;revert hF;refine zos fun K hK => ?_
 refine (rnone_any _).mono ?_
 rintro e wf ⟨rfl, hbf⟩
 have HSf := Lib.hid (HS.out.down hbf)
 clear hbf HS 
 obtain ⟨wz, hwz, hSV, hlv, HBf⟩ := flt_put 0 0 0 HSf.out.res HSf.out.below HSf.out.base
 clear HSf
 refine hK _ _ (fun a hF => ?_);clear hK K;refine seq_one ?_;refine op_storev rfl rfl hF rfl rfl rfl rfl hSV ?_;clear hF;refine fun a hF => ?_;refine seq_end ?_;replace hF := hF.kp [4] rfl
 clear hSV hwz
 refine hK _ _ ?_;clear hK
 refine wp_ret ?_
 (try simp only [then_ret, block_ret, goto_ret])
 exact ret_cell (fn := Tryz.f86) rfl hF rfl hlv ⟨by rw [HE.out], HBf.out⟩
end Go.Proofs.YtmcdhggnpfhlmaaGreat
