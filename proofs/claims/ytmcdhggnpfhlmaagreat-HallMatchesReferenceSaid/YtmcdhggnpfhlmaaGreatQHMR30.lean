/- hall: the reference: level; hall: foyerref10.Mark. -/
import Derived.Test.YtmcdhggnpfhlmaaGreatQHMR11
import Derived.Test.YtmcdhggnpfhlmaaGreatQHMR29

set_option linter.unusedVariables false
set_option linter.unusedSimpArgs false
namespace Go.Proofs.YtmcdhggnpfhlmaaGreat
open Go.RowKit Go.IntWalk
set_option linter.unusedSimpArgs false
set_option linter.unusedVariables false

def pntB (p : PntR) : Bool := coordB p.x && coordB p.y
def okA (l : LevR) (i : Nat) : Bool := coordB l.height && (l.aisles.take i).all boxB
def okP (l : LevR) (i : Nat) : Bool := okA l l.aisles.length && (l.pillars.take i).all boxB
def okD (l : LevR) (i : Nat) : Bool := okP l l.pillars.length && (l.doors.take i).all pntB
theorem all_take {α : Type} {p : α → Bool} {xs : List α} {i : Nat} (h : i < xs.length) : (xs.take (i + 1)).all p = ((xs.take i).all p && p xs[i]) := by
 rw [List.take_succ_eq_append_getElem h, List.all_append]
 simp
theorem okA_next {l : LevR} {i : Nat} (h : i < l.aisles.length) : okA l (i + 1) = (okA l i && boxB l.aisles[i]) := by unfold okA; rw [all_take h, Bool.and_assoc]
theorem okP_next {l : LevR} {i : Nat} (h : i < l.pillars.length) : okP l (i + 1) = (okP l i && boxB l.pillars[i]) := by unfold okP; rw [all_take h, Bool.and_assoc]
theorem okD_next {l : LevR} {i : Nat} (h : i < l.doors.length) : okD l (i + 1) = (okD l i && pntB l.doors[i]) := by unfold okD; rw [all_take h, Bool.and_assoc]
theorem okA_zero (l : LevR) : okA l 0 = coordB l.height := by unfold okA; simp
theorem okP_zero (l : LevR) : okP l 0 = okA l l.aisles.length := by unfold okP; simp
theorem okD_zero (l : LevR) : okD l 0 = okP l l.pillars.length := by unfold okD; simp
theorem any_not {α : Type} (p : α → Bool) (xs : List α) : (xs.any fun x => !p x) = !xs.all p := by
 induction xs with
 | nil => rfl
 | cons x xs ih => rw [List.any_cons, List.all_cons, ih, Bool.not_and]
theorem okD_all (l : LevR) : (!coordB l.height || ((l.aisles ++ l.pillars).any fun b => !boxB b) || (l.doors.any fun p => !(coordB p.x && coordB p.y))) = !okD l l.doors.length := by
 have h1 : (l.doors.any fun p => !(coordB p.x && coordB p.y)) = !l.doors.all pntB := any_not pntB l.doors
 rw [List.any_append, any_not, any_not, h1]
 unfold okD okP okA
 rw [List.take_length, List.take_length, List.take_length]
 cases coordB l.height <;> cases l.aisles.all boxB <;> cases l.pillars.all boxB <;> cases l.doors.all pntB <;> rfl


set_option maxRecDepth 100000 in
set_option maxHeartbeats 16000000 in
theorem rlevel_any (w : World) (h : HallR) (n : Nat) (hh : h.In w) (hn : n < h.levels.length) (hsm : h.levels[n].Sm) (hbn : h.levels[n].bn ≤ 1000000) :
  Calls Tryz.prog 84 #[.agg #[.string (bs h.name), .int .i64 h.stage.x, .int .i64 h.stage.y, .slice h.la h.ln h.lc], .int .i64 (n : Int)] w fun e w' => e = .returned (.agg #[.int .i64 (hdF (levelFault h.levels n h.levels[n])).err, .int .i64 (hdF (levelFault h.levels n h.levels[n])).at', .int .i64 (hdF (levelFault h.levels n h.levels[n])).other]) ∧ Below w.heap.size w w' := by
 have HH := Lib.hid hh
 have hln := hh.ln
 have HLL := Lib.hid hh.levels.1
 have hn1 : n < h.ln := by have := hh.levels.1; omega
 have hni : (n : Int) < (h.ln : Nat) := by omega
 have HLI := Lib.hid (hh.lev _ (List.getElem_mem hn))
 have HSM := Lib.hid hsm
 have HBN := Lib.hid hbn
 clear hh hsm hbn
 refine enter_fr (N := 139) [.agg #[.string (bs h.name), .int .i64 h.stage.x, .int .i64 h.stage.y, .slice h.la h.ln h.lc], .int .i64 (n : Int)] (Tryz.func84) rfl Tryz.ntmps84 (by rfl) (fun a hF => ?_);replace hF := hF.kp [0, 1] rfl;refine wp_seq_k (fun K hK => ?_);refine region_seq (l := [0, 1]) (by kernel_rfl) ?_;refine seq_one ?_;revert hF;refine qe1 fun a hF => ?_
 have HX : Hid (HallIn (w.alloc (.cells #[.string (bs h.name), .int .i64 h.stage.x, .int .i64 h.stage.y, .slice h.la h.ln h.lc] 26)) w.heap.size h) := World.alloc_heap_new w _
 have HB1 : Hid (Below w.heap.size w (w.alloc (.cells #[.string (bs h.name), .int .i64 h.stage.x, .int .i64 h.stage.y, .slice h.la h.ln h.lc] 26))) := Joins.below_alloc1 w _
 generalize w.alloc (.cells #[.string (bs h.name), .int .i64 h.stage.x, .int .i64 h.stage.y, .slice h.la h.ln h.lc] 26) = w1 at *
 obtain ⟨gx, hg⟩ : ∃ g, g = w.heap.size := ⟨_, rfl⟩
 rw [← hg] at hF HX
 clear hg
 refine seq_one ?_;revert hF;refine qe0 fun a hF => ?_
 have HR2 : Hid (FltIn (w1.alloc (.cells #[.int .i64 0, .int .i64 0, .int .i64 0] 55)) w1.heap.size ⟨0, 0, 0⟩) := World.alloc_heap_new w1 _
 have hb : Below w1.heap.size w1 (w1.alloc (.cells #[.int .i64 0, .int .i64 0, .int .i64 0] 55)) := Joins.below_alloc1 w1 _
 have HX2 := Lib.hid (HX.out.down hb)
 have HB2 : Hid (Below w.heap.size w (w1.alloc (.cells #[.int .i64 0, .int .i64 0, .int .i64 0] 55))) := HB1.out.trans (hb.mono HB1.out.size)
 have HGR : Hid (w.heap.size ≤ w1.heap.size) := HB1.out.size
 clear HX HB1 hb
 generalize w1.alloc (.cells #[.int .i64 0, .int .i64 0, .int .i64 0] 55) = w2 at *
 obtain ⟨gr, hg⟩ : ∃ g, g = w1.heap.size := ⟨_, rfl⟩
 rw [← hg] at hF HR2 HGR
 clear hg
 refine seq_end ?_;replace hF := hF.kp [1, 2, 4] rfl;refine hK _ _ ?_;clear hK
 obtain ⟨h0, h1, h2, h3⟩ := HX2.out.cells
 obtain ⟨bB, oB, hbb, b0, b1, b2, b3, b4, b5, b6, b7⟩ := lev_at (HH.out.below HB2.out).levels n hn1 hn
 rw [hbb] at h3
 obtain ⟨l, hl⟩ : ∃ l, l = h.levels[n] := ⟨_, rfl⟩
 have HLE := Lib.hid hl
 rw [← hl] at b0 b1 b2 b3 b4 b5 b6 b7 HLI HSM HBN
 clear hl hbb
 refine wp_seq_k (fun K hK => ?_);revert hF;refine zrp [4, 4, 1, 5, 4] [5, 6] fun a hF => ?_;refine seq_one ?_;revert hF;refine qe0 fun a hF => ?_
 obtain ⟨wa, gy, hwa, hgv, hSV, HTW⟩ := var_new w2 32 #[.string ⟨#[]⟩, .int .i64 0, .slice none 0 0, .slice none 0 0, .slice none 0 0, .slice none 0 0, .slice none 0 0, .int .i64 0] #[.string (bs l.name), .int .i64 l.height, .slice l.ba l.bn l.bc, .slice l.aa l.an l.ac, .slice l.sa l.sn l.sc, .slice l.pa l.pn l.pc, .slice l.da l.dn l.dc, .int .i64 l.at'] (by kernel_rfl) rfl (by simp [Value.oneCell'])
 rw [hwa]
 rw [← hgv] at hF
 clear hwa hgv
 refine seq_one ?_;refine op_storev rfl rfl hF rfl rfl rfl rfl hSV ?_;clear hF;refine fun a hF => ?_
 clear hSV
 refine hK _ _ ?_;clear hK
 generalize wa.setRow gy #[.string (bs l.name), .int .i64 l.height, .slice l.ba l.bn l.bc, .slice l.aa l.an l.ac, .slice l.sa l.sn l.sc, .slice l.pa l.pn l.pc, .slice l.da l.dn l.dc, .int .i64 l.at'] = w3 at *
 have HS : Hid (RlS w w3 gx h gr gy l) := ⟨HB2.out.trans (HTW.out.1.mono HB2.out.size), HX2.out.down HTW.out.1, (HTW.out.1.block gr (lt_of_block HR2.out)).trans HR2.out, HGR.out, HTW.out.2.1⟩
 clear HTW HX2 HR2 HB2 HGR h0 h1 h2 h3 b0 b1 b2 b3 b4 b5 b6 b7
 rw [← HLE.out]
 have HLO : Hid (∀ j (hj : j < h.levels.length), j < 0 → decide (h.levels[j].name = l.name) = false) := fun j _ h => by omega
 refine seq_cut (fun a' w' => FrF 139 [] [(1, .int .i64 (n : Int)), (4, .pointer (some ⟨gr, 0, none⟩)), (5, .pointer (some ⟨gy, 0, none⟩))] a' ∧ Hid (RlS w w' gx h gr gy l) ∧ Hid (∀ j (hj : j < h.levels.length), j < n → decide (h.levels[j].name = l.name) = false)) (fun KA hKA => ?_) ?_
 ·
  skip
  revert hF;refine zrs [2] [1, 2, 4, 5, 6] fun a hF => ?_
  refine wp_block ?_
  refine loop_fr (fun q a' w' => ∃ i : Nat, i + q = n ∧ FrF 139 [] [(1, .int .i64 (n : Int)), (2, .pointer (some ⟨gx, 0, none⟩)), (4, .pointer (some ⟨gr, 0, none⟩)), (5, .pointer (some ⟨gy, 0, none⟩)), (6, .int .i64 i)] a' ∧ Hid (RlS w w' gx h gr gy l) ∧ Hid (∀ j (hj : j < h.levels.length), j < i → decide (h.levels[j].name = l.name) = false)) n ⟨0, by omega, hF, HS, HLO⟩ ?_
  clear hF HS HLO
  rintro rk a wr ⟨i, hik, hF, HS, HLO⟩ KB hKB
  refine wp_seq_k (fun K hK => ?_)
  by_cases hlt : i < n
  rotate_left
  ·
   have hlti : ¬ (i : Int) < (n : Int) := by omega
   revert hF;refine zrs [1, 1, 5] [1, 2, 4, 5, 6, 18] fun a hF => ?_
   refine cond_no hF rfl ?_
   refine wp_exit ?_
   have hie : i = n := by omega
   rw [hie] at HLO
   exact hKA _ _ ⟨hF.sub ⟨rfl, rfl, rfl, trivial⟩, HS, HLO⟩
  have hlti : (i : Int) < (n : Int) := by omega
  revert hF;refine zrs [1, 1, 5] [1, 2, 4, 5, 6, 18] fun a hF => ?_
  refine cond_yes hF rfl ?_
  refine wp_skip ?_
  refine hK _ _ ?_;clear hK;replace hF := hF.kp [1, 2, 4, 5, 6] rfl
  clear hKA
  have hil : i < h.levels.length := by omega
  have hi1 : i < h.ln := by omega
  have hii : (i : Int) < (h.ln : Nat) := by omega
  have HSd : Hid (RlS w wr.drew gx h gr gy l) := HS.out.down (below_d (Below.refl _ _))
  obtain ⟨h0, h1, h2, h3⟩ := HSd.out.arg.cells
  obtain ⟨q0, q1, q2, q3, q4, q5, q6, q7⟩ := HSd.out.var.cells
  obtain ⟨bB, oB, hbb, b0, b1, b2, b3, b4, b5, b6, b7⟩ := lev_at (HH.out.below HSd.out.below).levels i hi1 hil
  rw [hbb] at h3
  obtain ⟨c, hc⟩ : ∃ c, c = h.levels[i] := ⟨_, rfl⟩
  have HCE := Lib.hid hc
  rw [← hc] at b0 b1 b2 b3 b4 b5 b6 b7
  clear hc hbb HS
  have hse := bs_beq c.name l.name
  refine wp_seq_k (fun KC hKC => ?_)
  refine wp_block ?_
  refine wp_seq_k (fun K hK => ?_)
  by_cases hnm : c.name = l.name
  ·
   have hdt : decide (c.name = l.name) = true := by simp [hnm]
   rw [hdt] at hse
   have HE : Hid (hdF (levelFault h.levels n l) = ⟨9, l.at', c.at'⟩) := by
    have h1 : h.levels.findIdx (fun x => decide (x.name = l.name)) = i := first_at hil (by rw [← HCE.out]; exact hdt) HLO.out
    show _ = _
    unfold levelFault
    rw [h1]
    dsimp only
    rw [if_pos hlt, List.getElem?_eq_getElem hil, ← HCE.out]
    rfl
   refine region_any (by kernel_rfl) ?_;revert hF;refine zrb (fuel := 0) [9, 52, 65, 106, 137, 180, 201, 244, 266] [1, 2, 4, 5, 6, 29] fun a hF => ?_
   clear hse hnm hdt h0 h1 h2 h3 q0 q1 q2 q3 q4 q5 q6 q7 b0 b1 b2 b3 b4 b5 b6 b7
   refine hK _ _ ?_;clear hK
   refine cond_yes hF rfl ?_
   have HSe : Hid (RlS w wr.drew.drew gx h gr gy l) := HSd.out.down (below_d (Below.refl _ _))
   obtain ⟨h0, h1, h2, h3⟩ := HSe.out.arg.cells
   obtain ⟨q0, q1, q2, q3, q4, q5, q6, q7⟩ := HSe.out.var.cells
   obtain ⟨bB, oB, hbb, b0, b1, b2, b3, b4, b5, b6, b7⟩ := lev_at (HH.out.below HSe.out.below).levels i hi1 hil
   rw [hbb] at h3
   rw [← HCE.out] at b0 b1 b2 b3 b4 b5 b6 b7
   clear hbb HSd
   refine wp_seq_k (fun K hK => ?_);refine region_any (by kernel_rfl) ?_;revert hF;refine zra (fuel := 2) [9, 52, 73, 116, 129, 170, 201, 244] [8, 9] fun a hF => ?_;refine any_one (n := 8) (fuel := 1) (by kernel_rfl) ?_;revert hF;refine zoc fun K hK => ?_
   refine (rfault_any _ ⟨9, l.at', c.at'⟩).mono ?_
   rintro e wf ⟨rfl, hbf⟩
   have HSf := Lib.hid (HSe.out.down hbf)
   clear hbf HSe h0 h1 h2 h3 q0 q1 q2 q3 q4 q5 q6 q7 b0 b1 b2 b3 b4 b5 b6 b7
   obtain ⟨wz, hwz, hSV, hlv, HBf⟩ := flt_put 9 l.at' c.at' HSf.out.res HSf.out.below HSf.out.base
   clear HSf
   refine hK _ _ (fun a hF => ?_);clear hK K;refine any_one (n := 9) (fuel := 0) (by kernel_rfl) ?_;refine op_storev rfl rfl hF rfl rfl rfl rfl hSV ?_;clear hF;refine fun a hF => ?_;refine any_end (by kernel_rfl) ?_;replace hF := hF.kp [4] rfl
   clear hSV hwz
   refine hK _ _ ?_;clear hK
   refine wp_ret ?_
   (try simp only [then_ret, block_ret, goto_ret])
   exact ret_cell (fn := Tryz.f84) rfl hF rfl hlv ⟨by rw [HE.out], HBf.out⟩
  have hdt : decide (c.name = l.name) = false := by simp [hnm]
  rw [hdt] at hse
  have HLO1 : Hid (∀ j (hj : j < h.levels.length), j < i + 1 → decide (h.levels[j].name = l.name) = false) := fun j hj hlt => by
   by_cases e : j = i
   ·
    subst e
    rw [← HCE.out]
    exact hdt
   ·
    exact HLO.out j hj (by omega)
  refine region_any (by kernel_rfl) ?_;revert hF;refine zrb (fuel := 0) [9, 52, 65, 106, 137, 180, 201, 244, 266] [1, 2, 4, 5, 6, 29] fun a hF => ?_
  clear hse hnm hdt h0 h1 h2 h3 q0 q1 q2 q3 q4 q5 q6 q7 b0 b1 b2 b3 b4 b5 b6 b7
  refine hK _ _ ?_;clear hK
  refine cond_no hF rfl ?_
  refine wp_skip ?_
  refine hKC _ _ ?_;clear hKC
  have hws : IntKind.i64.wrap ((i : Int) + 1) = ((i + 1 : Nat) : Int) := wrap_succ (by omega)
  revert hF;refine zrg [1, 4, 2] [1, 2, 4, 5, 6] fun a hF => ?_
  exact hKB (n - (i + 1)) _ _ (by omega) ⟨i + 1, by omega, hF, HSd, HLO1⟩
 clear hF HS HLO
 rintro a w5 ⟨hF, HS, HLO⟩
 have HFA : Hid (¬ h.levels.findIdx (fun x => decide (x.name = l.name)) < n) := by
  have := first_none (xs := h.levels) (p := fun x => decide (x.name = l.name)) (n := n) (by omega) HLO.out
  show ¬ _
  omega
 clear HLO
 have HB1 : Hid (l.blocks.length = l.bn) := HLI.out.blocks.1
 have HA1 : Hid (l.areas.length = l.an) := HLI.out.areas.1
 have HS1 : Hid (l.aisles.length = l.sn) := HLI.out.aisles.1
 have HP1 : Hid (l.pillars.length = l.pn) := HLI.out.pillars.1
 have HD1 : Hid (l.doors.length = l.dn) := HLI.out.doors.1
 have hrest := HSM.out.rest
 have hbn := HBN.out
 obtain ⟨T, hT⟩ : ∃ T, T = decide (8 ≤ n ∨ 40 < l.bn + l.an ∨ 40 < l.sn ∨ 40 < l.pn ∨ 40 < l.dn) := ⟨_, rfl⟩
 have HT := Lib.hid hT
 clear hT
 have HAF : Hid (levelFault h.levels n l = if T = true then [⟨3, l.at', -1⟩] else if okD l l.doors.length = false then [⟨2, l.at', -1⟩] else []) := by
  show _ = _
  unfold levelFault
  dsimp only
  rw [if_neg HFA.out, okD_all, HT.out, HB1.out, HA1.out, HS1.out, HP1.out, HD1.out]
  congr 1
  ·
   simp
  ·
   cases okD l l.dn <;> rfl
 clear HFA
 obtain ⟨q0, q1, q2, q3, q4, q5, q6, q7⟩ := HS.out.var.cells
 refine wp_seq_k (fun K hK => ?_)
 refine seq_cut (fun a' w' => FrF 139 [] [(4, .pointer (some ⟨gr, 0, none⟩)), (5, .pointer (some ⟨gy, 0, none⟩)), (68, .bool T)] a' ∧ Hid (RlS w w' gx h gr gy l)) (fun KA hKA => ?_) ?_
 ·
  have hws : IntKind.i64.wrap ((l.bn : Int) + (l.an : Int)) = (l.bn : Int) + (l.an : Int) := wrap_in (by omega) (by omega)
  by_cases h1 : 8 ≤ n
  ·
   have h1i : (8 : Int) ≤ (n : Int) := by omega
   revert hF;refine zrg [1, 4, 1, 0, 0, 0, 0, 0, 0, 0, 0, 5, 1, 0, 0, 0, 0, 5, 1, 0, 0, 0, 0, 5, 1, 0, 0, 0, 0, 5] [4, 5, 68] fun a hF => ?_
   refine hKA _ _ ⟨?_, HS⟩
   rw [HT.out, decide_eq_true (Or.inl h1)]
   exact hF
  have h1i : ¬ (8 : Int) ≤ (n : Int) := by omega
  by_cases h2 : 40 < l.bn + l.an
  ·
   have h2i : (40 : Int) < (l.bn : Int) + (l.an : Int) := by omega
   revert hF;refine zrg [1, 4, 1, 4, 4, 4, 4, 4, 4, 5, 4, 5, 1, 0, 0, 0, 0, 5, 1, 0, 0, 0, 0, 5, 1, 0, 0, 0, 0, 5] [4, 5, 68] fun a hF => ?_
   refine hKA _ _ ⟨?_, HS⟩
   rw [HT.out, decide_eq_true (Or.inr (Or.inl h2))]
   exact hF
  have h2i : ¬ (40 : Int) < (l.bn : Int) + (l.an : Int) := by omega
  by_cases h3 : 40 < l.sn
  ·
   have h3i : (40 : Int) < (l.sn : Nat) := by omega
   revert hF;refine zrg [1, 4, 1, 4, 4, 4, 4, 4, 4, 5, 4, 5, 1, 4, 4, 4, 4, 5, 1, 0, 0, 0, 0, 5, 1, 0, 0, 0, 0, 5] [4, 5, 68] fun a hF => ?_
   refine hKA _ _ ⟨?_, HS⟩
   rw [HT.out, decide_eq_true (Or.inr (Or.inr (Or.inl h3)))]
   exact hF
  have h3i : ¬ (40 : Int) < (l.sn : Nat) := by omega
  by_cases h4 : 40 < l.pn
  ·
   have h4i : (40 : Int) < (l.pn : Nat) := by omega
   revert hF;refine zrg [1, 4, 1, 4, 4, 4, 4, 4, 4, 5, 4, 5, 1, 4, 4, 4, 4, 5, 1, 4, 4, 4, 4, 5, 1, 0, 0, 0, 0, 5] [4, 5, 68] fun a hF => ?_
   refine hKA _ _ ⟨?_, HS⟩
   rw [HT.out, decide_eq_true (Or.inr (Or.inr (Or.inr (Or.inl h4))))]
   exact hF
  have h4i : ¬ (40 : Int) < (l.pn : Nat) := by omega
  by_cases h5 : 40 < l.dn
  ·
   have h5i : (40 : Int) < (l.dn : Nat) := by omega
   revert hF;refine zrg [1, 4, 1, 4, 4, 4, 4, 4, 4, 5, 4, 5, 1, 4, 4, 4, 4, 5, 1, 4, 4, 4, 4, 5, 1, 4, 4, 4, 4, 5] [4, 5, 68] fun a hF => ?_
   refine hKA _ _ ⟨?_, HS⟩
   rw [HT.out, decide_eq_true (Or.inr (Or.inr (Or.inr (Or.inr h5))))]
   exact hF
  have h5i : ¬ (40 : Int) < (l.dn : Nat) := by omega
  revert hF;refine zrg [1, 4, 1, 4, 4, 4, 4, 4, 4, 5, 4, 5, 1, 4, 4, 4, 4, 5, 1, 4, 4, 4, 4, 5, 1, 4, 4, 4, 4, 5] [4, 5, 68] fun a hF => ?_
  refine hKA _ _ ⟨?_, HS⟩
  rw [HT.out, decide_eq_false (by omega)]
  exact hF
 clear hF HS q0 q1 q2 q3 q4 q5 q6 q7 HT
 rintro a w6 ⟨hF, HS⟩
 obtain ⟨q0, q1, q2, q3, q4, q5, q6, q7⟩ := HS.out.var.cells
 cases T
 rotate_left
 ·
  have HE : Hid (hdF (levelFault h.levels n l) = ⟨3, l.at', -1⟩) := by
   show _ = _
   rw [HAF.out]
   rfl
  refine cond_yes hF rfl ?_
  refine wp_seq_k (fun K hK => ?_);revert hF;refine zrp [4, 4] [2, 3] fun a hF => ?_;revert hF;refine zos fun K hK => ?_
  refine (rfault_any w6 ⟨3, l.at', (-1)⟩).mono ?_
  rintro e wf ⟨rfl, hbf⟩
  have HSf := Lib.hid (HS.out.down hbf)
  clear hbf HS q0 q1 q2 q3 q4 q5 q6 q7
  obtain ⟨wz, hwz, hSV, hlv, HBf⟩ := flt_put 3 l.at' (-1) HSf.out.res HSf.out.below HSf.out.base
  clear HSf
  refine hK _ _ (fun a hF => ?_);clear hK K;refine seq_one ?_;refine op_storev rfl rfl hF rfl rfl rfl rfl hSV ?_;clear hF;refine fun a hF => ?_;refine seq_end ?_;replace hF := hF.kp [4] rfl
  clear hSV hwz
  refine hK _ _ ?_;clear hK
  refine wp_ret ?_
  (try simp only [then_ret, block_ret, goto_ret])
  exact ret_cell (fn := Tryz.f84) rfl hF rfl hlv ⟨by rw [HE.out], HBf.out⟩
 refine cond_no hF rfl ?_
 refine wp_skip ?_
 refine hK _ _ ?_;clear hK;refine wp_seq_k (fun K hK => ?_);revert hF;refine zrp [4, 4] [2, 3] fun a hF => ?_;revert hF;refine zos fun K hK => ?_
 refine (rcoord_any w6 l.height).mono ?_
 rintro e w7 ⟨rfl, hb7⟩
 have HS7 := Lib.hid (HS.out.down hb7)
 clear HS hb7 q0 q1 q2 q3 q4 q5 q6 q7
 refine hK _ _ (fun a hF => ?_);clear hK K;revert hF;refine zre 3 [2] [4, 5, 7] fun a hF => ?_;refine hK _ _ ?_;clear hK
 rw [← okA_zero] at hF
 refine seq_cut (fun a' w' => FrF 139 [] [(4, .pointer (some ⟨gr, 0, none⟩)), (5, .pointer (some ⟨gy, 0, none⟩)), (7, .bool (okA l l.aisles.length))] a' ∧ Hid (RlS w w' gx h gr gy l)) (fun KA hKA => ?_) ?_
 ·
  skip
  revert hF;refine zrs [2] [4, 5, 7, 8] fun a hF => ?_
  refine wp_block ?_
  refine loop_fr (fun q a' w' => ∃ i : Nat, i + q = l.sn ∧ FrF 139 [] [(4, .pointer (some ⟨gr, 0, none⟩)), (5, .pointer (some ⟨gy, 0, none⟩)), (7, .bool (okA l i)), (8, .int .i64 i)] a' ∧ Hid (RlS w w' gx h gr gy l)) l.sn ⟨0, by omega, hF, HS7⟩ ?_
  clear hF HS7
  rintro rk a wr ⟨i, hik, hF, HS⟩ KB hKB
  refine wp_seq_k (fun K hK => ?_)
  obtain ⟨q0, q1, q2, q3, q4, q5, q6, q7⟩ := HS.out.var.cells
  by_cases hlt : i < l.sn
  rotate_left
  ·
   have hlti : ¬ (i : Int) < (l.sn : Nat) := by omega
   revert hF;refine zrs [1, 4, 4, 4, 5] [4, 5, 7, 8, 79] fun a hF => ?_
   clear q0 q1 q2 q3 q4 q5 q6 q7
   refine cond_no hF rfl ?_
   refine wp_exit ?_
   have hie : i = l.aisles.length := by rw [HS1.out]; omega
   rw [hie] at hF
   exact hKA _ _ ⟨hF.sub ⟨rfl, rfl, rfl, trivial⟩, HS⟩
  have hlti : (i : Int) < (l.sn : Nat) := by omega
  revert hF;refine zrs [1, 4, 4, 4, 5] [4, 5, 7, 8, 79] fun a hF => ?_
  refine cond_yes hF rfl ?_
  refine wp_skip ?_
  refine hK _ _ ?_;clear hK;replace hF := hF.kp [4, 5, 7, 8] rfl
  clear hKA
  have hil : i < l.aisles.length := by rw [HS1.out]; exact hlt
  have HNX := Lib.hid (okA_next hil)
  refine seq_cut (fun a' w' => FrF 139 [] [(4, .pointer (some ⟨gr, 0, none⟩)), (5, .pointer (some ⟨gy, 0, none⟩)), (7, .bool (okA l (i + 1))), (8, .int .i64 i)] a' ∧ Hid (RlS w w' gx h gr gy l)) (fun KC hKC => ?_) ?_
  rotate_left
  ·
   clear hF HS q0 q1 q2 q3 q4 q5 q6 q7
   rintro a w' ⟨hF, HS⟩
   have hws : IntKind.i64.wrap ((i : Int) + 1) = ((i + 1 : Nat) : Int) := wrap_succ (by omega)
   revert hF;refine zrg [1, 4, 2] [4, 5, 7, 8] fun a hF => ?_
   exact hKB (l.sn - (i + 1)) _ _ (by omega) ⟨i + 1, by omega, hF, HS⟩
  clear hKB hik
  refine wp_block ?_
  obtain ⟨b, hb⟩ : ∃ b, b = okA l i := ⟨_, rfl⟩
  rw [← hb] at hF HNX
  clear hb
  cases b
  ·
   revert hF;refine zrg [1, 1, 0, 0, 0, 0, 0, 0, 5, 2] [4, 5, 7, 8] fun a hF => ?_
   refine hKC _ _ ⟨?_, HS⟩
   rw [HNX.out]
   exact hF
  obtain ⟨ba, oa, hla, e0, e1, e2, e3⟩ := box_at (HLI.out.below HS.out.below).aisles i hlt hil
  rw [hla] at q4
  generalize l.aisles[i] = bx1 at *
  revert hF;refine zrp [1, 1, 4, 4, 1, 5, 4] [7, 8, 9] fun a hF => ?_;revert hF;refine zos fun K hK => ?_
  refine (rbox_any wr bx1).mono ?_
  rintro e w8 ⟨rfl, hb8⟩
  have HS8 := Lib.hid (HS.out.down hb8)
  clear HS hb8 q0 q1 q2 q3 q4 q5 q6 q7 e0 e1 e2 e3
  refine hK _ _ (fun a hF => ?_);clear hK K;revert hF;refine zre 8 [5, 2] [4, 5, 7, 8] fun a hF => ?_
  refine hKC _ _ ⟨?_, HS8⟩
  rw [HNX.out]
  exact hF
 clear hF
 rintro a w7 ⟨hF, HS7⟩
 rw [← okP_zero] at hF
 refine seq_cut (fun a' w' => FrF 139 [] [(4, .pointer (some ⟨gr, 0, none⟩)), (5, .pointer (some ⟨gy, 0, none⟩)), (7, .bool (okP l l.pillars.length))] a' ∧ Hid (RlS w w' gx h gr gy l)) (fun KA hKA => ?_) ?_
 ·
  skip
  revert hF;refine zrs [2] [4, 5, 7, 9] fun a hF => ?_
  refine wp_block ?_
  refine loop_fr (fun q a' w' => ∃ i : Nat, i + q = l.pn ∧ FrF 139 [] [(4, .pointer (some ⟨gr, 0, none⟩)), (5, .pointer (some ⟨gy, 0, none⟩)), (7, .bool (okP l i)), (9, .int .i64 i)] a' ∧ Hid (RlS w w' gx h gr gy l)) l.pn ⟨0, by omega, hF, HS7⟩ ?_
  clear hF HS7
  rintro rk a wr ⟨i, hik, hF, HS⟩ KB hKB
  refine wp_seq_k (fun K hK => ?_)
  obtain ⟨q0, q1, q2, q3, q4, q5, q6, q7⟩ := HS.out.var.cells
  by_cases hlt : i < l.pn
  rotate_left
  ·
   have hlti : ¬ (i : Int) < (l.pn : Nat) := by omega
   revert hF;refine zrs [1, 4, 4, 4, 5] [4, 5, 7, 9, 95] fun a hF => ?_
   clear q0 q1 q2 q3 q4 q5 q6 q7
   refine cond_no hF rfl ?_
   refine wp_exit ?_
   have hie : i = l.pillars.length := by rw [HP1.out]; omega
   rw [hie] at hF
   exact hKA _ _ ⟨hF.sub ⟨rfl, rfl, rfl, trivial⟩, HS⟩
  have hlti : (i : Int) < (l.pn : Nat) := by omega
  revert hF;refine zrs [1, 4, 4, 4, 5] [4, 5, 7, 9, 95] fun a hF => ?_
  refine cond_yes hF rfl ?_
  refine wp_skip ?_
  refine hK _ _ ?_;clear hK;replace hF := hF.kp [4, 5, 7, 9] rfl
  clear hKA
  have hil : i < l.pillars.length := by rw [HP1.out]; exact hlt
  have HNX := Lib.hid (okP_next hil)
  refine seq_cut (fun a' w' => FrF 139 [] [(4, .pointer (some ⟨gr, 0, none⟩)), (5, .pointer (some ⟨gy, 0, none⟩)), (7, .bool (okP l (i + 1))), (9, .int .i64 i)] a' ∧ Hid (RlS w w' gx h gr gy l)) (fun KC hKC => ?_) ?_
  rotate_left
  ·
   clear hF HS q0 q1 q2 q3 q4 q5 q6 q7
   rintro a w' ⟨hF, HS⟩
   have hws : IntKind.i64.wrap ((i : Int) + 1) = ((i + 1 : Nat) : Int) := wrap_succ (by omega)
   revert hF;refine zrg [1, 4, 2] [4, 5, 7, 9] fun a hF => ?_
   exact hKB (l.pn - (i + 1)) _ _ (by omega) ⟨i + 1, by omega, hF, HS⟩
  clear hKB hik
  refine wp_block ?_
  obtain ⟨b, hb⟩ : ∃ b, b = okP l i := ⟨_, rfl⟩
  rw [← hb] at hF HNX
  clear hb
  cases b
  ·
   revert hF;refine zrg [1, 1, 0, 0, 0, 0, 0, 0, 5, 2] [4, 5, 7, 9] fun a hF => ?_
   refine hKC _ _ ⟨?_, HS⟩
   rw [HNX.out]
   exact hF
  obtain ⟨ba, oa, hla, e0, e1, e2, e3⟩ := box_at (HLI.out.below HS.out.below).pillars i hlt hil
  rw [hla] at q5
  generalize l.pillars[i] = bx1 at *
  revert hF;refine zrp [1, 1, 4, 4, 1, 5, 4] [7, 8, 9] fun a hF => ?_;revert hF;refine zos fun K hK => ?_
  refine (rbox_any wr bx1).mono ?_
  rintro e w8 ⟨rfl, hb8⟩
  have HS8 := Lib.hid (HS.out.down hb8)
  clear HS hb8 q0 q1 q2 q3 q4 q5 q6 q7 e0 e1 e2 e3
  refine hK _ _ (fun a hF => ?_);clear hK K;revert hF;refine zre 8 [5, 2] [4, 5, 7, 9] fun a hF => ?_
  refine hKC _ _ ⟨?_, HS8⟩
  rw [HNX.out]
  exact hF
 clear hF
 rintro a w7 ⟨hF, HS7⟩
 rw [← okD_zero] at hF
 refine seq_cut (fun a' w' => FrF 139 [] [(4, .pointer (some ⟨gr, 0, none⟩)), (5, .pointer (some ⟨gy, 0, none⟩)), (7, .bool (okD l l.doors.length))] a' ∧ Hid (RlS w w' gx h gr gy l)) (fun KA hKA => ?_) ?_
 ·
  skip
  revert hF;refine zrs [2] [4, 5, 7, 10] fun a hF => ?_
  refine wp_block ?_
  refine loop_fr (fun q a' w' => ∃ i : Nat, i + q = l.dn ∧ FrF 139 [] [(4, .pointer (some ⟨gr, 0, none⟩)), (5, .pointer (some ⟨gy, 0, none⟩)), (7, .bool (okD l i)), (10, .int .i64 i)] a' ∧ Hid (RlS w w' gx h gr gy l)) l.dn ⟨0, by omega, hF, HS7⟩ ?_
  clear hF HS7
  rintro rk a wr ⟨i, hik, hF, HS⟩ KB hKB
  refine wp_seq_k (fun K hK => ?_)
  obtain ⟨q0, q1, q2, q3, q4, q5, q6, q7⟩ := HS.out.var.cells
  by_cases hlt : i < l.dn
  rotate_left
  ·
   have hlti : ¬ (i : Int) < (l.dn : Nat) := by omega
   revert hF;refine zrs [1, 4, 4, 4, 5] [4, 5, 7, 10, 111] fun a hF => ?_
   clear q0 q1 q2 q3 q4 q5 q6 q7
   refine cond_no hF rfl ?_
   refine wp_exit ?_
   have hie : i = l.doors.length := by rw [HD1.out]; omega
   rw [hie] at hF
   exact hKA _ _ ⟨hF.sub ⟨rfl, rfl, rfl, trivial⟩, HS⟩
  have hlti : (i : Int) < (l.dn : Nat) := by omega
  revert hF;refine zrs [1, 4, 4, 4, 5] [4, 5, 7, 10, 111] fun a hF => ?_
  refine cond_yes hF rfl ?_
  refine wp_skip ?_
  refine hK _ _ ?_;clear hK;replace hF := hF.kp [4, 5, 7, 10] rfl
  clear hKA
  have hil : i < l.doors.length := by rw [HD1.out]; exact hlt
  have HNX := Lib.hid (okD_next hil)
  refine seq_cut (fun a' w' => FrF 139 [] [(4, .pointer (some ⟨gr, 0, none⟩)), (5, .pointer (some ⟨gy, 0, none⟩)), (7, .bool (okD l (i + 1))), (10, .int .i64 i)] a' ∧ Hid (RlS w w' gx h gr gy l)) (fun KC hKC => ?_) ?_
  rotate_left
  ·
   clear hF HS q0 q1 q2 q3 q4 q5 q6 q7
   rintro a w' ⟨hF, HS⟩
   have hws : IntKind.i64.wrap ((i : Int) + 1) = ((i + 1 : Nat) : Int) := wrap_succ (by omega)
   revert hF;refine zrg [1, 4, 2] [4, 5, 7, 10] fun a hF => ?_
   exact hKB (l.dn - (i + 1)) _ _ (by omega) ⟨i + 1, by omega, hF, HS⟩
  clear hKB hik
  refine wp_block ?_
  obtain ⟨b, hb⟩ : ∃ b, b = okD l i := ⟨_, rfl⟩
  rw [← hb] at hF HNX
  clear hb
  cases b
  ·
   revert hF;refine zrg [1, 1, 0, 0, 0, 0, 0, 0, 0, 5, 1, 0, 0, 0, 0, 0, 0, 0, 5, 2] [4, 5, 7, 10] fun a hF => ?_
   refine hKC _ _ ⟨?_, HS⟩
   rw [HNX.out]
   exact hF
  obtain ⟨ba, oa, hla, e0, e1⟩ := pnt_at (HLI.out.below HS.out.below).doors i hlt hil
  rw [hla] at q6
  have HPA : Hid (∀ w', Below w.heap.size w w' → ∃ b o, l.da = some ⟨b, o, none⟩ ∧ w'.cell? ⟨b, o + i * 2, none⟩ = some (.int .i64 l.doors[i].x) ∧ w'.cell? ⟨b, o + i * 2 + 1, none⟩ = some (.int .i64 l.doors[i].y)) := fun w' hb => pnt_at (HLI.out.below hb).doors i hlt hil
  generalize l.doors[i] = bx1 at *
  revert hF;refine zrp [1, 1, 4, 4, 1, 5, 4, 4] [8, 9, 10, 11, 12, 13, 14, 15, 16, 17, 18, 19] fun a hF => ?_;revert hF;refine zos fun K hK => ?_
  refine (rcoord_any wr bx1.x).mono ?_
  rintro e w8 ⟨rfl, hb8⟩
  have HS8 := Lib.hid (HS.out.down hb8)
  clear HS hb8 q0 q1 q2 q3 q4 q5 q6 q7 e0 e1 hla
  obtain ⟨cx, hcx⟩ : ∃ c, c = coordB bx1.x := ⟨_, rfl⟩
  have HPB : Hid (pntB bx1 = (cx && coordB bx1.y)) := by
   show _ = _
   unfold pntB
   rw [hcx]
  rw [← hcx]
  clear hcx
  cases cx
  ·
   refine hK _ _ (fun a hF => ?_);clear hK K;revert hF;refine zre 9 [5, 1, 0, 0, 0, 0, 0, 0, 0, 5, 2] [4, 5, 7, 10] fun a hF => ?_
   refine hKC _ _ ⟨?_, HS8⟩
   rw [HNX.out, HPB.out]
   exact hF
  obtain ⟨q0, q1, q2, q3, q4, q5, q6, q7⟩ := HS8.out.var.cells
  obtain ⟨ba, oa, hla, e0, e1⟩ := HPA.out w8 HS8.out.below
  rw [hla] at q6
  refine hK _ _ (fun a hF => ?_);clear hK K;revert hF;refine zrc 9 [5, 1, 4, 4, 1, 5, 4, 4] [17, 18, 19] fun a hF => ?_;revert hF;refine zos fun K hK => ?_
  refine (rcoord_any w8 bx1.y).mono ?_
  rintro e w9 ⟨rfl, hb9⟩
  have HS9 := Lib.hid (HS8.out.down hb9)
  clear HS8 hb9 q0 q1 q2 q3 q4 q5 q6 q7 e0 e1 hla
  refine hK _ _ (fun a hF => ?_);clear hK K;revert hF;refine zre 18 [5, 2] [4, 5, 7, 10] fun a hF => ?_
  refine hKC _ _ ⟨?_, HS9⟩
  rw [HNX.out, HPB.out]
  exact hF
 clear hF
 rintro a w7 ⟨hF, HS7⟩
 obtain ⟨q0, q1, q2, q3, q4, q5, q6, q7⟩ := HS7.out.var.cells
 generalize okD l l.doors.length = T at *
 refine wp_seq_k (fun K hK => ?_)
 cases T
 ·
  have HE : Hid (hdF (levelFault h.levels n l) = ⟨2, l.at', -1⟩) := by
   show _ = _
   rw [HAF.out]
   rfl
  revert hF;refine zrs [1, 4] [4, 5, 134] fun a hF => ?_
  refine cond_yes hF rfl ?_
  refine wp_seq_k (fun K hK => ?_);revert hF;refine zrp [4, 4] [2, 3] fun a hF => ?_;revert hF;refine zos fun K hK => ?_
  refine (rfault_any w7 ⟨2, l.at', (-1)⟩).mono ?_
  rintro e wf ⟨rfl, hbf⟩
  have HSf := Lib.hid (HS7.out.down hbf)
  clear hbf HS7 q0 q1 q2 q3 q4 q5 q6 q7
  obtain ⟨wz, hwz, hSV, hlv, HBf⟩ := flt_put 2 l.at' (-1) HSf.out.res HSf.out.below HSf.out.base
  clear HSf
  refine hK _ _ (fun a hF => ?_);clear hK K;refine seq_one ?_;refine op_storev rfl rfl hF rfl rfl rfl rfl hSV ?_;clear hF;refine fun a hF => ?_;refine seq_end ?_;replace hF := hF.kp [4] rfl
  clear hSV hwz
  refine hK _ _ ?_;clear hK
  refine wp_ret ?_
  (try simp only [then_ret, block_ret, goto_ret])
  exact ret_cell (fn := Tryz.f84) rfl hF rfl hlv ⟨by rw [HE.out], HBf.out⟩
 have HE : Hid (hdF (levelFault h.levels n l) = ⟨0, 0, 0⟩) := by
  show _ = _
  rw [HAF.out]
  rfl
 revert hF;refine zrs [1, 4] [4, 5, 134] fun a hF => ?_
 refine cond_no hF rfl ?_
 refine wp_skip ?_
 refine hK _ _ ?_;clear hK;refine wp_seq_k (fun K hK => ?_);refine region_seq (l := [0, 1]) (by kernel_rfl) ?_;revert hF;refine zos fun K hK => ?_
 refine (rnone_any w7).mono ?_
 rintro e wf ⟨rfl, hbf⟩
 have HSf := Lib.hid (HS7.out.down hbf)
 clear hbf HS7 q0 q1 q2 q3 q4 q5 q6 q7
 obtain ⟨wz, hwz, hSV, hlv, HBf⟩ := flt_put 0 0 0 HSf.out.res HSf.out.below HSf.out.base
 clear HSf
 refine hK _ _ (fun a hF => ?_);clear hK K;refine seq_one ?_;refine op_storev rfl rfl hF rfl rfl rfl rfl hSV ?_;clear hF;refine fun a hF => ?_;refine seq_end ?_;replace hF := hF.kp [4] rfl
 clear hSV hwz
 refine hK _ _ ?_;clear hK
 refine wp_ret ?_
 (try simp only [then_ret, block_ret, goto_ret])
 exact ret_cell (fn := Tryz.f84) rfl hF rfl hlv ⟨by rw [HE.out], HBf.out⟩
end Go.Proofs.YtmcdhggnpfhlmaaGreat

namespace Go.Proofs.YtmcdhggnpfhlmaaGreat
open Go.RowKit Go.IntWalk
set_option linter.unusedSimpArgs false
set_option linter.unusedVariables false

theorem mark_hit {ms : List MarkR} {s : Int} {i : Nat} (hi : i < ms.length) (he : ms[i].seat = s) (h : ∀ j (hj : j < ms.length), j < i → ms[j].seat ≠ s) : markS ms s = ms[i] := by
 unfold markS
 rw [List.find?_eq_some_iff_getElem.2 ⟨by simpa using he, i, hi, rfl, fun j hj => by simp [h j (by omega) hj]⟩]
 rfl
theorem mark_none {ms : List MarkR} {s : Int} (h : ∀ j (hj : j < ms.length), ms[j].seat ≠ s) : markS ms s = ⟨0, 0, 0⟩ := by
 unfold markS
 rw [List.find?_eq_none.2 ?_]
 ·
  rfl
 ·
  intro x hx
  obtain ⟨j, hj, rfl⟩ := List.mem_iff_getElem.1 hx
  simp [h j hj]

set_option maxRecDepth 100000 in
set_option maxHeartbeats 8000000 in
theorem refmark_any (w : World) (r : RowR) (s : Int) (hr : r.In w) :
  Calls Tryz.prog 27 #[.agg #[.string (bs r.name), .int .i64 r.x, .int .i64 r.y, .int .i64 r.fr, .int .i64 r.to, .int .i64 r.step, .slice r.ma r.mn r.mc, .int .i64 r.at'], .int .i64 s] w
   fun e w' => e = .returned (.agg #[.int .i64 (markS r.marks s).kind, .int .i64 (markS r.marks s).seat, .int .i64 (markS r.marks s).wth]) ∧ Below w.heap.size w w' := by
 have HRI := Lib.hid hr
 have HLM := Lib.hid hr.marks.1
 have HMH := Lib.hid (fun i hi he h => mark_hit (ms := r.marks) (s := s) (i := i) hi he h)
 have HMN := Lib.hid (mark_none (ms := r.marks) (s := s))
 have hmn : r.mn ≤ 9223372036854775807 := hr.mn
 clear hr
 generalize markS r.marks s = mk at *
 refine enter_fr (N := 27) [.agg #[.string (bs r.name), .int .i64 r.x, .int .i64 r.y, .int .i64 r.fr, .int .i64 r.to, .int .i64 r.step, .slice r.ma r.mn r.mc, .int .i64 r.at'], .int .i64 s] (Tryz.func27) rfl Tryz.ntmps27 (by rfl) (fun a hF => ?_);replace hF := hF.kp [0, 1] rfl;refine wp_seq_k (fun K hK => ?_);refine region_seq (l := [0, 1]) (by kernel_rfl) ?_;refine seq_one ?_;revert hF;refine qe1 fun a hF => ?_
 have HX : Hid (RowIn (w.alloc (.cells #[.string (bs r.name), .int .i64 r.x, .int .i64 r.y, .int .i64 r.fr, .int .i64 r.to, .int .i64 r.step, .slice r.ma r.mn r.mc, .int .i64 r.at'] 49)) w.heap.size r) := World.alloc_heap_new w _
 have HB1 := Lib.hid (Joins.below_alloc1 w (.cells #[.string (bs r.name), .int .i64 r.x, .int .i64 r.y, .int .i64 r.fr, .int .i64 r.to, .int .i64 r.step, .slice r.ma r.mn r.mc, .int .i64 r.at'] 49))
 generalize w.alloc (.cells #[.string (bs r.name), .int .i64 r.x, .int .i64 r.y, .int .i64 r.fr, .int .i64 r.to, .int .i64 r.step, .slice r.ma r.mn r.mc, .int .i64 r.at'] 49) = w1 at *
 obtain ⟨gr, hgr⟩ : ∃ gr, gr = w.heap.size := ⟨_, rfl⟩
 rw [← hgr] at hF HX
 clear hgr
 refine seq_one ?_;revert hF;refine qe0 fun a hF => ?_
 have HZ : Hid ((w1.alloc (.cells #[.int .i64 0, .int .i64 0, .int .i64 0] 46)).heap[w1.heap.size]? = some (.cells #[.int .i64 0, .int .i64 0, .int .i64 0] 46 (0, 0))) := World.alloc_heap_new w1 _
 have HBa := Lib.hid (Joins.below_alloc1 w1 (.cells #[.int .i64 0, .int .i64 0, .int .i64 0] 46))
 have HB3 : Hid (Below w.heap.size w (w1.alloc (.cells #[.int .i64 0, .int .i64 0, .int .i64 0] 46))) := HB1.out.trans (HBa.out.mono HB1.out.size)
 have HX3 := Lib.hid (HX.out.down HBa.out)
 have hgm0 : w.heap.size ≤ w1.heap.size := HB1.out.size
 clear HX HB1 HBa
 generalize w1.alloc (.cells #[.int .i64 0, .int .i64 0, .int .i64 0] 46) = w3 at *
 obtain ⟨gm, hgm⟩ : ∃ gm, gm = w1.heap.size := ⟨_, rfl⟩
 rw [← hgm] at hF HZ hgm0
 clear hgm
 refine seq_end ?_;replace hF := hF.kp [1, 2, 4] rfl;refine hK _ _ ?_;clear hK;refine wp_seq_k (fun KA hKA => ?_)
 obtain ⟨c0, c1, c2, c3, c4, c5, c6, c7⟩ := HX3.out.cells
 clear c0 c1 c2 c3 c4 c5 c7
 have z0 : w3.cell? ⟨gm, 0, none⟩ = some (.int .i64 0) := boxed_cell (j := 0) HZ.out rfl
 have z1 : w3.cell? ⟨gm, 1, none⟩ = some (.int .i64 0) := boxed_cell (j := 1) HZ.out rfl
 have z2 : w3.cell? ⟨gm, 2, none⟩ = some (.int .i64 0) := boxed_cell (j := 2) HZ.out rfl
 have f0 := free_var (o := 0) HZ.out
 have f1 := free_var (o := 1) HZ.out
 have f2 := free_var (o := 2) HZ.out
 revert hF;refine zrs [2] [1, 2, 4, 5] fun a hF => ?_
 refine wp_block ?_
 refine loop_fr (fun n a' w' => ∃ i : Nat, i + n = r.mn ∧ FrF 27 [] [(1, .int .i64 s), (2, .pointer (some ⟨gr, 0, none⟩)), (4, .pointer (some ⟨gm, 0, none⟩)), (5, .int .i64 i)] a' ∧ w' = w3 ∧ Hid (∀ j (hj : j < r.marks.length), j < i → r.marks[j].seat ≠ s)) r.mn ⟨0, by omega, hF.sub ⟨rfl, rfl, rfl, rfl, trivial⟩, rfl, fun j _ hj => absurd hj (Nat.not_lt_zero _)⟩ ?_
 clear hF
 rintro rk a wr ⟨i, hik, hF, rfl, HP⟩ KB hKB
 refine wp_seq_k (fun K hK => ?_)
 by_cases hlt : i < r.mn
 rotate_left
 ·
  have hil0 : ¬ (i : Int) < r.mn := by omega
  revert hF;refine zrs [1, 4, 4, 4, 5] [1, 2, 4, 5, 10] fun a hF => ?_
  refine cond_no hF rfl ?_
  refine wp_exit ?_
  have HE : Hid (mk = ⟨0, 0, 0⟩) := HMN.out fun j hj => HP.out j hj (by have := HLM.out; omega)
  refine hKA _ _ ?_;clear hKA;replace hF := hF.kp [4] rfl;refine wp_seq_k (fun K hK => ?_);revert hF;refine zrp [3] [1] fun a hF => ?_;refine seq_one ?_;revert hF;refine qu2 fun a hF => ?_
  have hW := set3 (x := .int .i64 0) (y := .int .i64 0) (z := .int .i64 0) HZ.out
  have hBW : Below w.heap.size w (((wr.setCell ⟨gm, 0, none⟩ (.int .i64 0)).setCell ⟨gm, 1, none⟩ (.int .i64 0)).setCell ⟨gm, 2, none⟩ (.int .i64 0)) := ((HB3.out.trans (below_set hgm0)).trans (below_set hgm0)).trans (below_set hgm0)
  generalize ((wr.setCell ⟨gm, 0, none⟩ (.int .i64 0)).setCell ⟨gm, 1, none⟩ (.int .i64 0)).setCell ⟨gm, 2, none⟩ (.int .i64 0) = w5 at *
  have g0 : w5.cell? ⟨gm, 0, none⟩ = some (.int .i64 0) := boxed_cell (j := 0) hW rfl
  have g1 : w5.cell? ⟨gm, 1, none⟩ = some (.int .i64 0) := boxed_cell (j := 1) hW rfl
  have g2 : w5.cell? ⟨gm, 2, none⟩ = some (.int .i64 0) := boxed_cell (j := 2) hW rfl
  have hlv : (loadVar 46 ⟨gm, 0, none⟩).run Tryz.prog w5 = .ok (.agg #[.int .i64 0, .int .i64 0, .int .i64 0]) w5 := by
   clear hF hW hBW HZ HB3 z0 z1 z2 f0 f1 f2
   go_simp
  refine seq_end ?_;replace hF := hF.kp [4] rfl;refine hK _ _ ?_;clear hK
  refine wp_ret ?_
  try simp only [then_ret, block_ret, goto_ret]
  refine ret_cell (fn := Tryz.f27) rfl hF rfl hlv ?_
  exact ⟨by rw [HE.out], hBW⟩
 have hii : (i : Int) < r.mn := by omega
 revert hF;refine zrs [1, 4, 4, 4, 5] [1, 2, 4, 5, 10] fun a hF => ?_
 refine cond_yes hF rfl ?_
 refine wp_skip ?_
 refine hK _ _ ?_;clear hK;replace hF := hF.kp [1, 2, 4, 5] rfl
 clear hKA
 have hil : i < r.marks.length := by rw [HLM.out]; exact hlt
 refine seq_cut (fun a' w' => FrF 27 [] [(1, .int .i64 s), (2, .pointer (some ⟨gr, 0, none⟩)), (4, .pointer (some ⟨gm, 0, none⟩)), (5, .int .i64 i)] a' ∧ w' = wr ∧ Hid (∀ j (hj : j < r.marks.length), j < i + 1 → r.marks[j].seat ≠ s)) (fun KC hKC => ?_) ?_
 rotate_left
 ·
  clear hF HP
  rintro a w' ⟨hF, rfl, HP⟩
  have hws : IntKind.i64.wrap ((i : Int) + 1) = ((i + 1 : Nat) : Int) := wrap_succ (by omega)
  revert hF;refine zrg [1, 4, 2] [1, 2, 4, 5] fun a hF => ?_
  exact hKB (r.mn - (i + 1)) _ _ (by omega) ⟨i + 1, by omega, hF, rfl, HP⟩
 clear hKB hik
 refine wp_block ?_
 obtain ⟨b, o, hma, e0, e1, e2⟩ := mark_at (HRI.out.marks.below HB3.out) i hlt hil
 have HMI := Lib.hid (HMH.out i hil)
 have HPN : Hid (r.marks[i].seat ≠ s → ∀ j (hj : j < r.marks.length), j < i + 1 → r.marks[j].seat ≠ s) := fun h j hj hji => by
  by_cases e : j = i
  ·
   subst e; exact h
  ·
   exact HP.out j hj (by omega)
 generalize r.marks[i] = mi at *
 by_cases he : mi.seat = s
 rotate_left
 ·
  have hb : (mi.seat == s) = false := by simp [he]
  revert hF;refine zrs [4, 4, 1, 5, 4, 4, 1, 5] [1, 2, 4, 5, 20] fun a hF => ?_
  refine cond_no hF rfl ?_
  refine wp_skip ?_
  exact hKC _ _ ⟨hF.sub ⟨rfl, rfl, rfl, rfl, trivial⟩, rfl, HPN.out he⟩
 ·
  have hb : (mi.seat == s) = true := by simp [he]
  have HE : Hid (mk = mi) := HMI.out he HP.out
  clear HMI HPN he
  revert hF;refine zrs [4, 4, 1, 5, 4, 4, 1, 5] [1, 2, 4, 5, 20] fun a hF => ?_
  refine cond_yes hF rfl ?_
  refine wp_seq_k (fun K hK => ?_);revert hF;refine zrp [4, 4, 1, 5, 4] [5] fun a hF => ?_;refine seq_one ?_;revert hF;refine qu2 fun a hF => ?_
  have hW := set3 (x := .int .i64 mi.kind) (y := .int .i64 mi.seat) (z := .int .i64 mi.wth) HZ.out
  have hBW : Below w.heap.size w (((wr.setCell ⟨gm, 0, none⟩ (.int .i64 mi.kind)).setCell ⟨gm, 1, none⟩ (.int .i64 mi.seat)).setCell ⟨gm, 2, none⟩ (.int .i64 mi.wth)) := ((HB3.out.trans (below_set hgm0)).trans (below_set hgm0)).trans (below_set hgm0)
  generalize ((wr.setCell ⟨gm, 0, none⟩ (.int .i64 mi.kind)).setCell ⟨gm, 1, none⟩ (.int .i64 mi.seat)).setCell ⟨gm, 2, none⟩ (.int .i64 mi.wth) = w5 at *
  have g0 : w5.cell? ⟨gm, 0, none⟩ = some (.int .i64 mi.kind) := boxed_cell (j := 0) hW rfl
  have g1 : w5.cell? ⟨gm, 1, none⟩ = some (.int .i64 mi.seat) := boxed_cell (j := 1) hW rfl
  have g2 : w5.cell? ⟨gm, 2, none⟩ = some (.int .i64 mi.wth) := boxed_cell (j := 2) hW rfl
  have hlv : (loadVar 46 ⟨gm, 0, none⟩).run Tryz.prog w5 = .ok (.agg #[.int .i64 mi.kind, .int .i64 mi.seat, .int .i64 mi.wth]) w5 := by
   clear hF hW hBW HZ HB3 z0 z1 z2 f0 f1 f2
   go_simp
  refine seq_end ?_;replace hF := hF.kp [4] rfl;refine hK _ _ ?_;clear hK
  refine wp_ret ?_
  try simp only [then_ret, block_ret, goto_ret]
  refine ret_cell (fn := Tryz.f27) rfl hF rfl hlv ?_
  exact ⟨by rw [HE.out], hBW⟩
end Go.Proofs.YtmcdhggnpfhlmaaGreat
