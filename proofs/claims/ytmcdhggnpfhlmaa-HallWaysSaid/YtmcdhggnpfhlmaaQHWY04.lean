/- HallWays: the walk. -/
import Derived.Test.YtmcdhggnpfhlmaaQHCB38
import Derived.Test.YtmcdhggnpfhlmaaQHWY01
import Derived.Test.YtmcdhggnpfhlmaaQHWY02
import Derived.Test.YtmcdhggnpfhlmaaQHWY03

namespace Go.Proofs.Ytmcdhggnpfhlmaa
open Go.RowKit Go.IntWalk
set_option linter.unusedSimpArgs false
set_option linter.unusedVariables false

/-- The plan with this level alone. -/
def wayH (l : LevR) (ga : Nat) : HallR := ⟨[], ⟨0, 0⟩, some ⟨ga, 0, none⟩, 1, 1, [l]⟩
theorem info_pnt : (Try.prog.info? 23).map (fun i => (i.zero, i.size, i.bytes)) = some (some (.agg #[.int .i64 0, .int .i64 0]), 2, 16) := by kernel_rfl
theorem closed_stop {S : List Bool} {A : List BoxR} {D : List PntR} {i : Nat} (h : closedI S A D i = false) : ∀ k, closedI S A D (i + k) = false
  | 0 => h
  | k + 1 => by rw [← Nat.add_assoc, closed_next, closed_stop h k, Bool.false_and]
theorem closed_len {S : List Bool} {A : List BoxR} {D : List PntR} {i : Nat} (h : closedI S A D i = true) : A.length ≤ S.length := by
  unfold closedI at h
  rw [Bool.and_eq_true, decide_eq_true_eq] at h
  exact h.1
/-- The doors that are asked, the aisles. -/
def doorK (S : List Bool) (A : List BoxR) (D : List PntR) (i k : Nat) : Bool := (D.take k).all (doorC S A i)
def meetK (S : List Bool) (A : List BoxR) (D : List PntR) (i k : Nat) : Bool := D.all (doorC S A i) && (List.range k).all (meetC S A i)
theorem doorK_next {S : List Bool} {A : List BoxR} {D : List PntR} {i k : Nat} (hk : k < D.length) : doorK S A D i (k + 1) = (doorK S A D i k && doorC S A i D[k]) := by
  unfold doorK
  rw [List.take_succ_eq_append_getElem hk, List.all_append]
  simp
theorem meetK_next (S : List Bool) (A : List BoxR) (D : List PntR) (i k : Nat) : meetK S A D i (k + 1) = (meetK S A D i k && meetC S A i k) := by
  unfold meetK
  rw [List.range_succ, List.all_append, Bool.and_assoc]
  simp
theorem doorK_all (S : List Bool) (A : List BoxR) (D : List PntR) (i : Nat) : doorK S A D i D.length = meetK S A D i 0 := by
  unfold doorK meetK
  simp

/-- The level with one door more. -/
def moreL (l : LevR) (dm : Option Addr) (dk : Nat) (d : PntR) : LevR := { l with da := dm, dn := l.dn + 1, dc := dk, doors := l.doors ++ [d] }
theorem LevIn.setDoors {w : World} {g : Nat} {l : LevR} (h : LevIn w g l) (dm : Option Addr) (dk : Nat) (d : PntR) : LevIn (w.setCell ⟨g, 6, none⟩ (.slice dm (l.dn + 1) dk)) g (moreL l dm dk d) := by
  unfold LevIn at *
  simp [World.setCell, Array.getElem?_modify, h, moreL]

/-- What stays. -/
structure WyB (w0 w : World) (l : LevR) (gl gh ga : Nat) (R : List Bool) (gr : Nat) (Rs : List Bool) (gs : Nat) : Prop where
  below : Below w0.heap.size w0 w
  lev : LevIn w gl l
  hall : HallIn w gh (wayH l ga)
  one : LevIn w ga l
  r : BoolRow w gr 4 R
  s : BoolRow w gs 4 Rs
theorem WyB.down {w0 w w' : World} {l : LevR} {gl gh ga gr gs : Nat} {R Rs : List Bool} (h : WyB w0 w l gl gh ga R gr Rs gs) (hb : Below w.heap.size w w') : WyB w0 w' l gl gh ga R gr Rs gs :=
  ⟨h.below.trans (hb.mono h.below.size), h.lev.down hb, h.hall.down hb, h.one.down hb, h.r.of_heap (hb.block gr h.r.lt), h.s.of_heap (hb.block gs h.s.lt)⟩
theorem WyB.drew {w0 w : World} {l : LevR} {gl gh ga gr gs : Nat} {R Rs : List Bool} (h : WyB w0 w l gl gh ga R gr Rs gs) : WyB w0 w.drew l gl gh ga R gr Rs gs := h.down (below_d (Below.refl _ _))

set_option maxRecDepth 100000 in
set_option maxHeartbeats 64000000 in
theorem ways_law (w : World) (l : LevR) (ra : Option Addr) (sn sc : Nat) (S : List Bool) (d : PntR) (hg : LevGot w l) (hS : Recs BoolE w ra sn S) (hsn : sn ≤ 9223372036854775807) :
    Calls Try.prog 5 #[.agg #[.string (bs l.name), .int .i64 l.height, .slice l.ba l.bn l.bc, .slice l.aa l.an l.ac, .slice l.sa l.sn l.sc, .slice l.pa l.pn l.pc, .slice l.da l.dn l.dc, .int .i64 l.at'], .slice ra sn sc, .agg #[.int .i64 d.x, .int .i64 d.y]] w fun e w' => e = .returned (.bool true) ∧ Below w.heap.size w w' := by
  have HG := Lib.hid hg
  have HS := Lib.hid hS
  have HSL : Hid (S.length = sn) := hS.1
  clear hg hS
  refine enter_fr (N := 282) [.agg #[.string (bs l.name), .int .i64 l.height, .slice l.ba l.bn l.bc, .slice l.aa l.an l.ac, .slice l.sa l.sn l.sc, .slice l.pa l.pn l.pc, .slice l.da l.dn l.dc, .int .i64 l.at'], .slice ra sn sc, .agg #[.int .i64 d.x, .int .i64 d.y]] (Try.func5) rfl Try.ntmps5 (by rfl) (fun a hF => ?_);replace hF := hF.k3 0 1 2 rfl rfl rfl;refine wp_seq_k (fun K hK => ?_);refine region_seq (l := [0, 1, 2]) (by kernel_rfl) ?_;refine seq_one ?_;refine ze1 0 rfl rfl rfl hF rfl rfl ?_;clear hF;refine fun a hF => ?_
  have HL1 : Hid (LevIn (w.alloc (.cells #[.string (bs l.name), .int .i64 l.height, .slice l.ba l.bn l.bc, .slice l.aa l.an l.ac, .slice l.sa l.sn l.sc, .slice l.pa l.pn l.pc, .slice l.da l.dn l.dc, .int .i64 l.at'] 43)) w.heap.size l) := World.alloc_heap_new w _
  have HB1 : Hid (Below w.heap.size w (w.alloc (.cells #[.string (bs l.name), .int .i64 l.height, .slice l.ba l.bn l.bc, .slice l.aa l.an l.ac, .slice l.sa l.sn l.sc, .slice l.pa l.pn l.pc, .slice l.da l.dn l.dc, .int .i64 l.at'] 43))) := Joins.below_alloc1 w _
  generalize w.alloc (.cells #[.string (bs l.name), .int .i64 l.height, .slice l.ba l.bn l.bc, .slice l.aa l.an l.ac, .slice l.sa l.sn l.sc, .slice l.pa l.pn l.pc, .slice l.da l.dn l.dc, .int .i64 l.at'] 43) = w1 at *
  obtain ⟨gl, hgl⟩ : ∃ g, g = w.heap.size := ⟨_, rfl⟩
  rw [← hgl] at hF HL1
  clear hgl
  refine seq_one ?_;refine ze1 2 rfl rfl rfl hF rfl rfl ?_;clear hF;refine fun a hF => ?_
  have HD2 : Hid (PntIn (w1.alloc (.cells #[.int .i64 d.x, .int .i64 d.y] 23)) w1.heap.size d) := World.alloc_heap_new w1 _
  have hb : Below w1.heap.size w1 (w1.alloc (.cells #[.int .i64 d.x, .int .i64 d.y] 23)) := Joins.below_alloc1 w1 _
  have HL2 := Lib.hid (HL1.out.down hb)
  have HB2 : Hid (Below w.heap.size w (w1.alloc (.cells #[.int .i64 d.x, .int .i64 d.y] 23))) := HB1.out.trans (hb.mono HB1.out.size)
  clear HL1 HB1 hb
  generalize w1.alloc (.cells #[.int .i64 d.x, .int .i64 d.y] 23) = w2 at *
  obtain ⟨gd, hgd⟩ : ∃ g, g = w1.heap.size := ⟨_, rfl⟩
  rw [← hgd] at hF HD2
  clear hgd
  refine seq_chain [(2, true)] [] rfl hF (fun C hC => ?_);clear hF;refine za rfl rfl rfl ?_;refine hC _ (fun a hF => ?_);clear hC C;refine seq_end ?_;replace hF := hF.k3 1 3 5 rfl rfl rfl;refine hK _ _ ?_;clear hK;(try clear K);refine wp_seq_k (fun K hK => ?_);refine region_seq (l := [0, 1]) (by kernel_rfl) ?_;refine seq_one ?_;refine op_call [] rfl rfl hF rfl (by kernel_rfl) trivial (fun K hK => ?_);clear hF
  refine (head_any w2).mono ?_
  rintro e w3 ⟨rfl, hb⟩
  have HB3 : Hid (Below w.heap.size w w3) := HB2.out.trans (hb.mono HB2.out.size)
  have HL3 := Lib.hid (HL2.out.down hb)
  have HD3 := Lib.hid (HD2.out.down hb)
  clear HB2 HL2 HD2 hb
  refine hK _ _ (fun a hF => ?_);clear hK K;refine seq_chain [(1, true)] [] rfl hF (fun C hC => ?_);clear hF;refine za rfl rfl rfl ?_;refine hC _ (fun a hF => ?_);clear hC C;refine seq_end ?_;replace hF := hF.k4 1 3 5 7 rfl rfl rfl rfl;refine hK _ _ ?_;clear hK;(try clear K)
  obtain ⟨l0, l1, l2, l3, l4, l5, l6, l7⟩ := HL3.out.cells
  refine wp_seq_k (fun K hK => ?_);refine region_seq (l := [0, 1, 2, 3, 4]) (by kernel_rfl) ?_;refine seq_chain [(0, true)] [1, 2, 3, 4] rfl hF (fun C hC => ?_);clear hF;refine zs1 3 rfl rfl ?_;refine hC _ (fun a hF => ?_);clear hC C;refine seq_one ?_;refine ze1 26 rfl rfl rfl hF rfl rfl ?_;clear hF;refine fun a hF => ?_
  have HA4 : Hid (LevIn (w3.alloc (.cells #[.string (bs l.name), .int .i64 l.height, .slice l.ba l.bn l.bc, .slice l.aa l.an l.ac, .slice l.sa l.sn l.sc, .slice l.pa l.pn l.pc, .slice l.da l.dn l.dc, .int .i64 l.at'] 43)) w3.heap.size l) := World.alloc_heap_new w3 _
  have hb : Below w3.heap.size w3 (w3.alloc (.cells #[.string (bs l.name), .int .i64 l.height, .slice l.ba l.bn l.bc, .slice l.aa l.an l.ac, .slice l.sa l.sn l.sc, .slice l.pa l.pn l.pc, .slice l.da l.dn l.dc, .int .i64 l.at'] 43)) := Joins.below_alloc1 w3 _
  have HL4 := Lib.hid (HL3.out.down hb)
  have HD4 := Lib.hid (HD3.out.down hb)
  have HB4 : Hid (Below w.heap.size w (w3.alloc (.cells #[.string (bs l.name), .int .i64 l.height, .slice l.ba l.bn l.bc, .slice l.aa l.an l.ac, .slice l.sa l.sn l.sc, .slice l.pa l.pn l.pc, .slice l.da l.dn l.dc, .int .i64 l.at'] 43))) := HB3.out.trans (hb.mono HB3.out.size)
  clear HB3 HL3 HD3 hb l0 l1 l2 l3 l4 l5 l6 l7
  generalize w3.alloc (.cells #[.string (bs l.name), .int .i64 l.height, .slice l.ba l.bn l.bc, .slice l.aa l.an l.ac, .slice l.sa l.sn l.sc, .slice l.pa l.pn l.pc, .slice l.da l.dn l.dc, .int .i64 l.at'] 43) = w4 at *
  obtain ⟨ga, hga⟩ : ∃ g, g = w3.heap.size := ⟨_, rfl⟩
  rw [← hga] at hF HA4
  clear hga
  refine seq_chain [(2, true)] [3, 4] rfl hF (fun C hC => ?_);clear hF;refine zs1 27 rfl rfl ?_;refine hC _ (fun a hF => ?_);clear hC C;refine seq_one ?_;refine ze0 rfl rfl rfl hF rfl ?_;clear hF;refine fun a hF => ?_
  have hs0 : (w4.alloc (.cells #[.string ⟨#[]⟩, .int .i64 0, .int .i64 0, .slice none 0 0] 26)).heap[w4.heap.size]? = some (.cells #[.string ⟨#[]⟩, .int .i64 0, .int .i64 0, .slice none 0 0] 26 (0, 0)) := World.alloc_heap_new _ _
  have hb1 := Joins.below_alloc1 w4 (.cells #[.string ⟨#[]⟩, .int .i64 0, .int .i64 0, .slice none 0 0] 26)
  generalize w4.alloc (.cells #[.string ⟨#[]⟩, .int .i64 0, .int .i64 0, .slice none 0 0] 26) = wa at *
  obtain ⟨gh, hgv⟩ : ∃ g, g = w4.heap.size := ⟨_, rfl⟩
  have hgw : w4.heap.size ≤ gh := Nat.le_of_eq hgv.symm
  rw [← hgv] at hF hs0
  clear hgv
  have hSV := run_storeVar_row (P := Try.prog) wa gh 26 26 #[.string ⟨#[]⟩, .int .i64 0, .int .i64 0, .slice none 0 0] #[.string ⟨#[]⟩, .int .i64 0, .int .i64 0, .slice (some ⟨ga, 0, none⟩) 1 1] hs0 (by kernel_rfl) rfl (by simp [Value.oneCell'])
  have hs2 := setRow_heap wa gh #[.string ⟨#[]⟩, .int .i64 0, .int .i64 0, .slice none 0 0] #[.string ⟨#[]⟩, .int .i64 0, .int .i64 0, .slice (some ⟨ga, 0, none⟩) 1 1] 26 (0, 0) hs0
  have hb2 : Below w4.heap.size w4 (wa.setRow gh #[.string ⟨#[]⟩, .int .i64 0, .int .i64 0, .slice (some ⟨ga, 0, none⟩) 1 1]) := below_setRow hb1 hgw #[.string ⟨#[]⟩, .int .i64 0, .int .i64 0, .slice (some ⟨ga, 0, none⟩) 1 1]
  have HTW := Lib.hid (And.intro hb2 (And.intro hs2 hgw))
  clear hs0 hb1 hs2 hb2 hgw
  refine seq_one ?_;refine op_storev rfl rfl hF rfl rfl rfl rfl hSV ?_;clear hF;refine fun a hF => ?_
  clear hSV
  refine hK _ _ ?_;clear hK;(try clear K)
  generalize wa.setRow gh #[.string ⟨#[]⟩, .int .i64 0, .int .i64 0, .slice (some ⟨ga, 0, none⟩) 1 1] = w5 at *
  have HH5 : Hid (HallIn w5 gh (wayH l ga)) := HTW.out.2.1
  have HL5 := Lib.hid (HL4.out.down HTW.out.1)
  have HA5 := Lib.hid (HA4.out.down HTW.out.1)
  have HD5 := Lib.hid (HD4.out.down HTW.out.1)
  have HB5 : Hid (Below w.heap.size w w5) := HB4.out.trans (HTW.out.1.mono HB4.out.size)
  clear HTW HL4 HA4 HD4 HB4
  have HHI : Hid (∀ w', Below w.heap.size w w' → LevIn w' ga l → (wayH l ga).In w') := fun w' hb hl => ⟨recs_one hl rfl, (by decide : 1 ≤ 9223372036854775807), fun l' hl' => by
    rw [List.mem_singleton.1 hl']
    exact HG.out.1.below hb⟩
  have HRE : Hid (Reach (wayH l ga)) := fun l' hl' => by
    rw [List.mem_singleton.1 hl']
    exact HG.out.2.2
  obtain ⟨c0, c1, c2, c3⟩ := HH5.out.cells
  have c0' : w5.cell? ⟨gh, 0, none⟩ = some (.string ⟨#[]⟩) := c0
  have c1' : w5.cell? ⟨gh, 1, none⟩ = some (.int .i64 0) := c1
  have c2' : w5.cell? ⟨gh, 2, none⟩ = some (.int .i64 0) := c2
  have c3' : w5.cell? ⟨gh, 3, none⟩ = some (.slice (some ⟨ga, 0, none⟩) 1 1) := c3
  clear c0 c1 c2 c3
  refine wp_seq_k (fun K hK => ?_);refine wp_seq_k (fun K hK => ?_);refine region_seq (l := [0, 1, 2]) (by kernel_rfl) ?_;refine seq_chain [(0, true)] [1, 2] rfl hF (fun C hC => ?_);clear hF;refine zs1 8 rfl rfl ?_;refine hC _ (fun a hF => ?_);clear hC C;refine seq_one ?_;refine op_call [_] rfl rfl hF rfl (by kernel_rfl) ⟨rfl, trivial⟩ (fun K hK => ?_);clear hF
  refine (few_any w5 (wayH l ga) (HHI.out w5 HB5.out HA5.out) HRE.out).mono ?_
  rintro e w6 ⟨b, rfl, hfew, hb⟩
  have HB6 : Hid (Below w.heap.size w w6) := HB5.out.trans (hb.mono HB5.out.size)
  have HL6 := Lib.hid (HL5.out.down hb)
  have HA6 := Lib.hid (HA5.out.down hb)
  have HD6 := Lib.hid (HD5.out.down hb)
  have HH6 := Lib.hid (HH5.out.down hb)
  have HFW := Lib.hid hfew
  clear c0' c1' c2' c3' HL5 HA5 HD5 HH5 HB5 hb hfew
  cases b
  · refine hK _ _ (fun a hF => ?_);clear hK K;refine seq_chain [(2, true)] [] rfl hF (fun C hC => ?_);clear hF;refine zs1 30 rfl rfl ?_;refine hC _ (fun a hF => ?_);clear hC C;refine seq_end ?_;replace hF := hF.k6 1 3 5 7 8 31 rfl rfl rfl rfl rfl rfl;refine hK _ _ ?_;clear hK;(try clear K)
    refine cond_yes hF rfl ?_
    refine wp_seq_k (fun K hK => ?_);refine region_seq (l := [0, 1]) (by kernel_rfl) ?_;refine seq_chain [(0, true), (1, true)] [] rfl hF (fun C hC => ?_);clear hF;refine zm rfl rfl rfl ?_;refine za rfl rfl rfl ?_;refine hC _ (fun a hF => ?_);clear hC C;refine seq_end ?_;replace hF := hF.k1 6 rfl;refine hK _ _ ?_;clear hK;(try clear K);refine wp_ret ?_;(try simp only [then_ret, block_ret, goto_ret]);refine ret_fr (fn := Try.f5) (rs := [.tmp 6]) rfl [_] hF ⟨rfl, trivial⟩ ?_
    exact ⟨rfl, HB6.out⟩
  refine hK _ _ (fun a hF => ?_);clear hK K;refine seq_chain [(2, true)] [] rfl hF (fun C hC => ?_);clear hF;refine zs1 30 rfl rfl ?_;refine hC _ (fun a hF => ?_);clear hC C;refine seq_end ?_;replace hF := hF.k6 1 3 5 7 8 31 rfl rfl rfl rfl rfl rfl;refine hK _ _ ?_;clear hK;(try clear K)
  refine cond_no hF rfl ?_
  refine wp_skip ?_
  refine hK _ _ ?_;clear hK;(try clear K)
  have HSM := Lib.hid (HFW.out rfl).sm
  have hrest : l.sn + l.pn + l.dn + l.an ≤ 60 := (HSM.out.lev l (List.mem_cons_self ..)).rest
  have HSN : Hid (l.aisles.length = l.sn) := HG.out.1.aisles.1
  have HDN : Hid (l.doors.length = l.dn) := HG.out.1.doors.1
  clear HFW
  obtain ⟨l0, l1, l2, l3, l4, l5, l6, l7⟩ := HL6.out.cells
  refine wp_seq_k (fun K hK => ?_);refine region_seq (l := [0, 1, 2]) (by kernel_rfl) ?_;refine seq_chain [(0, true)] [1, 2] rfl hF (fun C hC => ?_);clear hF;refine zs1 3 rfl rfl ?_;refine hC _ (fun a hF => ?_);clear hC C;refine seq_one ?_;refine op_call [_] rfl rfl hF rfl (by kernel_rfl) ⟨rfl, trivial⟩ (fun K hK => ?_);clear hF
  refine (reached_any w6 l (HG.out.1.below HB6.out).aisles (HG.out.1.below HB6.out).doors (by omega) (by omega)).mono ?_
  rintro e w7 ⟨⟨gr, rfl, _, hr⟩, hb⟩
  have HB7 : Hid (Below w.heap.size w w7) := HB6.out.trans (hb.mono HB6.out.size)
  have HL7 := Lib.hid (HL6.out.down hb)
  have HA7 := Lib.hid (HA6.out.down hb)
  have HD7 := Lib.hid (HD6.out.down hb)
  have HH7 := Lib.hid (HH6.out.down hb)
  have HR7 := Lib.hid hr
  clear l0 l1 l2 l3 l4 l5 l6 l7 HB6 HL6 HA6 HD6 HH6 hb hr
  refine hK _ _ (fun a hF => ?_);clear hK K;refine seq_chain [(2, true)] [] rfl hF (fun C hC => ?_);clear hF;refine za rfl rfl rfl ?_;refine hC _ (fun a hF => ?_);clear hC C;refine seq_end ?_;replace hF := hF.k6 1 3 5 7 8 9 rfl rfl rfl rfl rfl rfl;refine hK _ _ ?_;clear hK;(try clear K)
  obtain ⟨l0, l1, l2, l3, l4, l5, l6, l7⟩ := HL7.out.cells
  refine wp_seq_k (fun K hK => ?_);refine region_seq (l := [0, 1, 2]) (by kernel_rfl) ?_;refine seq_chain [(0, true)] [1, 2] rfl hF (fun C hC => ?_);clear hF;refine zs1 3 rfl rfl ?_;refine hC _ (fun a hF => ?_);clear hC C;refine seq_one ?_;refine ze0 rfl rfl rfl hF rfl ?_;clear hF;refine fun a hF => ?_
  have hs0 : (w7.alloc (.cells #[.string ⟨#[]⟩, .int .i64 0, .slice none 0 0, .slice none 0 0, .slice none 0 0, .slice none 0 0, .slice none 0 0, .int .i64 0] 43)).heap[w7.heap.size]? = some (.cells #[.string ⟨#[]⟩, .int .i64 0, .slice none 0 0, .slice none 0 0, .slice none 0 0, .slice none 0 0, .slice none 0 0, .int .i64 0] 43 (0, 0)) := World.alloc_heap_new _ _
  have hb1 := Joins.below_alloc1 w7 (.cells #[.string ⟨#[]⟩, .int .i64 0, .slice none 0 0, .slice none 0 0, .slice none 0 0, .slice none 0 0, .slice none 0 0, .int .i64 0] 43)
  generalize w7.alloc (.cells #[.string ⟨#[]⟩, .int .i64 0, .slice none 0 0, .slice none 0 0, .slice none 0 0, .slice none 0 0, .slice none 0 0, .int .i64 0] 43) = wa at *
  obtain ⟨gm, hgv⟩ : ∃ g, g = w7.heap.size := ⟨_, rfl⟩
  have hgw : w7.heap.size ≤ gm := Nat.le_of_eq hgv.symm
  rw [← hgv] at hF hs0
  clear hgv
  have hSV := run_storeVar_row (P := Try.prog) wa gm 43 43 #[.string ⟨#[]⟩, .int .i64 0, .slice none 0 0, .slice none 0 0, .slice none 0 0, .slice none 0 0, .slice none 0 0, .int .i64 0] #[.string (bs l.name), .int .i64 l.height, .slice l.ba l.bn l.bc, .slice l.aa l.an l.ac, .slice l.sa l.sn l.sc, .slice l.pa l.pn l.pc, .slice l.da l.dn l.dc, .int .i64 l.at'] hs0 (by kernel_rfl) rfl (by simp [Value.oneCell'])
  have hs2 := setRow_heap wa gm #[.string ⟨#[]⟩, .int .i64 0, .slice none 0 0, .slice none 0 0, .slice none 0 0, .slice none 0 0, .slice none 0 0, .int .i64 0] #[.string (bs l.name), .int .i64 l.height, .slice l.ba l.bn l.bc, .slice l.aa l.an l.ac, .slice l.sa l.sn l.sc, .slice l.pa l.pn l.pc, .slice l.da l.dn l.dc, .int .i64 l.at'] 43 (0, 0) hs0
  have hb2 : Below w7.heap.size w7 (wa.setRow gm #[.string (bs l.name), .int .i64 l.height, .slice l.ba l.bn l.bc, .slice l.aa l.an l.ac, .slice l.sa l.sn l.sc, .slice l.pa l.pn l.pc, .slice l.da l.dn l.dc, .int .i64 l.at']) := below_setRow hb1 hgw #[.string (bs l.name), .int .i64 l.height, .slice l.ba l.bn l.bc, .slice l.aa l.an l.ac, .slice l.sa l.sn l.sc, .slice l.pa l.pn l.pc, .slice l.da l.dn l.dc, .int .i64 l.at']
  have HTW := Lib.hid (And.intro hb2 (And.intro hs2 hgw))
  clear hs0 hb1 hs2 hb2 hgw
  refine seq_one ?_;refine op_storev rfl rfl hF rfl rfl rfl rfl hSV ?_;clear hF;refine fun a hF => ?_
  clear hSV
  refine hK _ _ ?_;clear hK;(try clear K)
  generalize wa.setRow gm #[.string (bs l.name), .int .i64 l.height, .slice l.ba l.bn l.bc, .slice l.aa l.an l.ac, .slice l.sa l.sn l.sc, .slice l.pa l.pn l.pc, .slice l.da l.dn l.dc, .int .i64 l.at'] = w8 at *
  have HM8 : Hid (LevIn w8 gm l) := HTW.out.2.1
  have HGM : Hid (w7.heap.size ≤ gm) := HTW.out.2.2
  have HB78 : Hid (Below w7.heap.size w7 w8.drew) := HTW.out.1.trans (below_d ((Below.refl w8.heap.size w8).mono HTW.out.1.size))
  clear HTW l0 l1 l2 l3 l4 l5 l6 l7
  have HST : Hid (∀ w', Below w7.heap.size w7 w' → True ∧ w'.cell? ⟨gl, 6, none⟩ = some (.slice l.da l.dn l.dc) ∧ w'.cell? ⟨gd, 0, none⟩ = some (.int .i64 d.x) ∧ w'.cell? ⟨gd, 1, none⟩ = some (.int .i64 d.y)) := fun w' hb => ⟨trivial, (HL7.out.down hb).cells.2.2.2.2.2.2.1, (HD7.out.down hb).cells⟩
  have HMd : Hid (LevIn w8.drew gm l) := HM8.out.down (below_d (Below.refl _ _))
  have HRC : Hid (∀ w', Below w7.heap.size w7 w' → Rcs PntE w' (.slice l.da l.dn l.dc) l.doors) := fun w' hb => by
    have h := ((HG.out.1.below HB7.out).below hb).doors
    rw [← HDN.out] at h ⊢
    exact ⟨_, _, rfl, h, HG.out.1.da0⟩
  have hrm := hrest
  clear HM8
  obtain ⟨B0, hB0⟩ : ∃ B, B = w8.drew.heap.size := ⟨_, rfl⟩
  have HBZ : Hid (B0 ≤ w8.drew.heap.size) := Nat.le_of_eq hB0
  have HMB : Hid (gm < B0) := by
    rw [hB0]
    exact lt_of_block HMd.out
  have HBW : Hid (w7.heap.size ≤ B0) := by
    rw [hB0]
    exact HB78.out.size
  clear hB0
  have HAS : Hid (AS PntE 23 w8.drew B0 d w8.drew none none) := AS.start B0 _ HBZ.out
  refine seq_cut (fun a' w' => ∃ (dm : Option Addr) (dk : Nat), FrF 282 [] [(1, .slice ra sn sc), (3, .pointer (some ⟨gl, 0, none⟩)), (7, .bool true), (8, .pointer (some ⟨gh, 0, none⟩)), (9, .slice (some ⟨gr, 0, none⟩) l.sn l.sn), (10, .pointer (some ⟨gm, 0, none⟩))] a' ∧ Hid (Below w7.heap.size w7 w') ∧ Hid (LevIn w' gm (moreL l dm dk d)) ∧ Hid (Recs PntE w' dm (l.dn + 1) (l.doors ++ [d]))) (fun KD hKD => ?_) ?_
  · generalize hwd : w8.drew = wd at *
    refine region_any (by kernel_rfl) ?_;rw [hwd];refine held_chain (fuel := 6) (fun w' => True ∧ w'.cell? ⟨gl, 6, none⟩ = some (.slice l.da l.dn l.dc) ∧ w'.cell? ⟨gd, 0, none⟩ = some (.int .i64 d.x) ∧ w'.cell? ⟨gd, 1, none⟩ = some (.int .i64 d.y)) [1, 2, 4] rfl (by kernel_rfl) (by kernel_rfl) hF (fun _ _ d _ _ h => by cases d <;> exact h) (HST.out _ HB78.out) (fun C hC => ?_);clear hF;refine ChainH.step (v := ?_) rfl rfl rfl rfl ?_ ?_
    rotate_left
    · intro a hF w' hw
      have s3 := hF.slot 3 _ rfl
      clear hw
      clear hF
      go_simp <;> with_reducible rfl
    refine ChainH.step (v := ?_) rfl rfl rfl rfl ?_ ?_
    rotate_left
    · intro a hF w' hw
      have s37 := hF.slot 37 _ rfl
      obtain ⟨_, s6, sp0, sp1⟩ := hw
      clear hF
      go_simp <;> with_reducible rfl
    refine ChainH.step (v := ?_) rfl rfl rfl rfl ?_ ?_
    rotate_left
    · intro a hF w' hw
      have s5 := hF.slot 5 _ rfl
      obtain ⟨_, s6, sp0, sp1⟩ := hw
      clear hF
      go_simp <;> with_reducible rfl
    refine hC _ (fun a hF => ?_);clear hC C;refine held_two (n := 0) (m := 5) (fuel := 5) (by kernel_rfl) ?_ ?_
    · have HN := Lib.hid HAS.out.lit
      clear HAS
      refine ze0 rfl rfl rfl hF rfl ?_;clear hF;refine fun a hF => ⟨?_, ?_⟩
      · intro _
        exact HST.out _ (HB78.out.trans (HN.out.below.mono HBW.out))
      generalize wd.alloc (.cells #[] 23) = x1 at *
      obtain ⟨g0, hg0⟩ : ∃ g, g = wd.heap.size := ⟨_, rfl⟩
      rw [← hg0] at hF HN
      have HAS := HN
      clear hg0 HN
      refine held_two (n := 3) (m := 5) (fuel := 4) (by kernel_rfl) ?_ ?_
      · obtain ⟨la3, lc3, x2, hAPP, has⟩ := HAS.out.app 41 41 (u := .slice l.da l.dn l.dc) Try.underlying41 info_pnt rfl (by decide) (HRC.out _ (HB78.out.trans (HAS.out.below.mono HBW.out))) (D' := l.doors) rfl (by rw [HDN.out]; omega)
        have HN := Lib.hid has
        clear HAS has
        refine op_append rfl rfl rfl rfl rfl hF rfl rfl rfl hAPP (fun a hF => ⟨?_, ?_⟩)
        · intro _
          exact HST.out _ (HB78.out.trans (HN.out.below.mono HBW.out))
        have HAS := HN
        clear hAPP HN
        have HN := Lib.hid (HAS.out.one (arr := #[.int .i64 d.x, .int .i64 d.y]) rfl)
        clear HAS
        refine held_one (n := 5) (fuel := 3) (by kernel_rfl) ?_;refine ze1 40 rfl rfl rfl hF rfl rfl ?_;clear hF;refine fun a hF => ⟨?_, ?_⟩
        · intro _
          exact HST.out _ (HB78.out.trans (HN.out.below.mono HBW.out))
        generalize x2.alloc (.cells #[.int .i64 d.x, .int .i64 d.y] 23) = x3 at *
        obtain ⟨g5, hg5⟩ : ∃ g, g = x2.heap.size := ⟨_, rfl⟩
        rw [← hg5] at hF HN
        have HAS := HN
        clear hg5 HN
        obtain ⟨dm, dk, x4, hAPP, has⟩ := HAS.out.app 41 41 Try.underlying41 info_pnt rfl (by decide) HAS.out.rcs (D' := l.doors ++ [d]) rfl (by simp only [List.length_append, HDN.out, List.length_singleton]; omega)
        have HN := Lib.hid has
        clear HAS has
        refine held_one (n := 6) (fuel := 2) (by kernel_rfl) ?_;refine op_append rfl rfl rfl rfl rfl hF rfl rfl rfl hAPP (fun a hF => ⟨?_, ?_⟩)
        · intro _
          exact HST.out _ (HB78.out.trans (HN.out.below.mono HBW.out))
        have HAS := HN
        clear hAPP HN
        have hdl : (l.doors ++ [d]).length = l.dn + 1 := by rw [List.length_append, HDN.out]; rfl
        rw [hdl] at hF HAS
        have HMx : Hid (LevIn x4 gm l) := (HAS.out.below.block gm HMB.out).trans HMd.out
        have fm := free_var (o := 6) HMx.out
        obtain ⟨_, _, _, _, _, _, m6, _⟩ := HMx.out.cells
        have HBE : Hid (Below w7.heap.size w7 (x4.setCell ⟨gm, 6, none⟩ (.slice dm (l.dn + 1) dk))) := (HB78.out.trans (HAS.out.below.mono HBW.out)).trans (below_set HGM.out)
        refine held_go (fuel := 1) [7] rfl (by kernel_rfl) (by kernel_rfl) hF (fun _ _ d _ _ h => by cases d <;> exact h) (HST.out _ (HB78.out.trans (HAS.out.below.mono HBW.out))) (fun C hC => ?_);clear hF;refine ChainH.step (v := ?_) rfl rfl rfl rfl ?_ ?_
        rotate_left
        · intro a hF w' hw
          have s10 := hF.slot 10 _ rfl
          clear hw
          clear hF
          go_simp <;> with_reducible rfl
        refine hC _ (fun a hF => ?_);clear hC C;refine held_one (n := 8) (fuel := 0) (by kernel_rfl) ?_;refine zu2 42 43 rfl rfl hF rfl rfl rfl ?_;clear hF;refine fun a hF => ⟨?_, ?_⟩
        · intro _
          exact HST.out _ HBE.out
        refine held_end (by kernel_rfl) ?_;replace hF := hF.k6 1 3 7 8 9 10 rfl rfl rfl rfl rfl rfl
        have hrs := HAS.out.set HMB.out (o := 6) (v := .slice dm (l.dn + 1) dk)
        exact hKD _ _ ⟨dm, dk, hF, HBE, HMx.out.setDoors dm dk d, hdl ▸ hrs⟩
      · have HN := Lib.hid (HAS.out.one (arr := #[.int .i64 d.x, .int .i64 d.y]) rfl)
        clear HAS
        refine ze1 40 rfl rfl rfl hF rfl rfl ?_;clear hF;refine fun a hF => ⟨?_, ?_⟩
        · intro _
          exact HST.out _ (HB78.out.trans (HN.out.below.mono HBW.out))
        generalize x1.alloc (.cells #[.int .i64 d.x, .int .i64 d.y] 23) = x2 at *
        obtain ⟨g5, hg5⟩ : ∃ g, g = x1.heap.size := ⟨_, rfl⟩
        rw [← hg5] at hF HN
        have HAS := HN
        clear hg5 HN
        obtain ⟨la3, lc3, x3, hAPP, has⟩ := HAS.out.app 41 41 (u := .slice l.da l.dn l.dc) Try.underlying41 info_pnt rfl (by decide) (HRC.out _ (HB78.out.trans (HAS.out.below.mono HBW.out))) (D' := l.doors) rfl (by rw [HDN.out]; omega)
        have HN := Lib.hid has
        clear HAS has
        refine held_one (n := 3) (fuel := 3) (by kernel_rfl) ?_;refine op_append rfl rfl rfl rfl rfl hF rfl rfl rfl hAPP (fun a hF => ⟨?_, ?_⟩)
        · intro _
          exact HST.out _ (HB78.out.trans (HN.out.below.mono HBW.out))
        have HAS := HN
        clear hAPP HN
        obtain ⟨dm, dk, x4, hAPP, has⟩ := HAS.out.app 41 41 Try.underlying41 info_pnt rfl (by decide) HAS.out.rcs (D' := l.doors ++ [d]) rfl (by simp only [List.length_append, HDN.out, List.length_singleton]; omega)
        have HN := Lib.hid has
        clear HAS has
        refine held_one (n := 6) (fuel := 2) (by kernel_rfl) ?_;refine op_append rfl rfl rfl rfl rfl hF rfl rfl rfl hAPP (fun a hF => ⟨?_, ?_⟩)
        · intro _
          exact HST.out _ (HB78.out.trans (HN.out.below.mono HBW.out))
        have HAS := HN
        clear hAPP HN
        have hdl : (l.doors ++ [d]).length = l.dn + 1 := by rw [List.length_append, HDN.out]; rfl
        rw [hdl] at hF HAS
        have HMx : Hid (LevIn x4 gm l) := (HAS.out.below.block gm HMB.out).trans HMd.out
        have fm := free_var (o := 6) HMx.out
        obtain ⟨_, _, _, _, _, _, m6, _⟩ := HMx.out.cells
        have HBE : Hid (Below w7.heap.size w7 (x4.setCell ⟨gm, 6, none⟩ (.slice dm (l.dn + 1) dk))) := (HB78.out.trans (HAS.out.below.mono HBW.out)).trans (below_set HGM.out)
        refine held_go (fuel := 1) [7] rfl (by kernel_rfl) (by kernel_rfl) hF (fun _ _ d _ _ h => by cases d <;> exact h) (HST.out _ (HB78.out.trans (HAS.out.below.mono HBW.out))) (fun C hC => ?_);clear hF;refine ChainH.step (v := ?_) rfl rfl rfl rfl ?_ ?_
        rotate_left
        · intro a hF w' hw
          have s10 := hF.slot 10 _ rfl
          clear hw
          clear hF
          go_simp <;> with_reducible rfl
        refine hC _ (fun a hF => ?_);clear hC C;refine held_one (n := 8) (fuel := 0) (by kernel_rfl) ?_;refine zu2 42 43 rfl rfl hF rfl rfl rfl ?_;clear hF;refine fun a hF => ⟨?_, ?_⟩
        · intro _
          exact HST.out _ HBE.out
        refine held_end (by kernel_rfl) ?_;replace hF := hF.k6 1 3 7 8 9 10 rfl rfl rfl rfl rfl rfl
        have hrs := HAS.out.set HMB.out (o := 6) (v := .slice dm (l.dn + 1) dk)
        exact hKD _ _ ⟨dm, dk, hF, HBE, HMx.out.setDoors dm dk d, hdl ▸ hrs⟩
    · have HN := Lib.hid (HAS.out.one (arr := #[.int .i64 d.x, .int .i64 d.y]) rfl)
      clear HAS
      refine ze1 40 rfl rfl rfl hF rfl rfl ?_;clear hF;refine fun a hF => ⟨?_, ?_⟩
      · intro _
        exact HST.out _ (HB78.out.trans (HN.out.below.mono HBW.out))
      generalize wd.alloc (.cells #[.int .i64 d.x, .int .i64 d.y] 23) = x1 at *
      obtain ⟨g5, hg5⟩ : ∃ g, g = wd.heap.size := ⟨_, rfl⟩
      rw [← hg5] at hF HN
      have HAS := HN
      clear hg5 HN
      have HN := Lib.hid HAS.out.lit
      clear HAS
      refine held_one (n := 0) (fuel := 4) (by kernel_rfl) ?_;refine ze0 rfl rfl rfl hF rfl ?_;clear hF;refine fun a hF => ⟨?_, ?_⟩
      · intro _
        exact HST.out _ (HB78.out.trans (HN.out.below.mono HBW.out))
      generalize x1.alloc (.cells #[] 23) = x2 at *
      obtain ⟨g0, hg0⟩ : ∃ g, g = x1.heap.size := ⟨_, rfl⟩
      rw [← hg0] at hF HN
      have HAS := HN
      clear hg0 HN
      obtain ⟨la3, lc3, x3, hAPP, has⟩ := HAS.out.app 41 41 (u := .slice l.da l.dn l.dc) Try.underlying41 info_pnt rfl (by decide) (HRC.out _ (HB78.out.trans (HAS.out.below.mono HBW.out))) (D' := l.doors) rfl (by rw [HDN.out]; omega)
      have HN := Lib.hid has
      clear HAS has
      refine held_one (n := 3) (fuel := 3) (by kernel_rfl) ?_;refine op_append rfl rfl rfl rfl rfl hF rfl rfl rfl hAPP (fun a hF => ⟨?_, ?_⟩)
      · intro _
        exact HST.out _ (HB78.out.trans (HN.out.below.mono HBW.out))
      have HAS := HN
      clear hAPP HN
      obtain ⟨dm, dk, x4, hAPP, has⟩ := HAS.out.app 41 41 Try.underlying41 info_pnt rfl (by decide) HAS.out.rcs (D' := l.doors ++ [d]) rfl (by simp only [List.length_append, HDN.out, List.length_singleton]; omega)
      have HN := Lib.hid has
      clear HAS has
      refine held_one (n := 6) (fuel := 2) (by kernel_rfl) ?_;refine op_append rfl rfl rfl rfl rfl hF rfl rfl rfl hAPP (fun a hF => ⟨?_, ?_⟩)
      · intro _
        exact HST.out _ (HB78.out.trans (HN.out.below.mono HBW.out))
      have HAS := HN
      clear hAPP HN
      have hdl : (l.doors ++ [d]).length = l.dn + 1 := by rw [List.length_append, HDN.out]; rfl
      rw [hdl] at hF HAS
      have HMx : Hid (LevIn x4 gm l) := (HAS.out.below.block gm HMB.out).trans HMd.out
      have fm := free_var (o := 6) HMx.out
      obtain ⟨_, _, _, _, _, _, m6, _⟩ := HMx.out.cells
      have HBE : Hid (Below w7.heap.size w7 (x4.setCell ⟨gm, 6, none⟩ (.slice dm (l.dn + 1) dk))) := (HB78.out.trans (HAS.out.below.mono HBW.out)).trans (below_set HGM.out)
      refine held_go (fuel := 1) [7] rfl (by kernel_rfl) (by kernel_rfl) hF (fun _ _ d _ _ h => by cases d <;> exact h) (HST.out _ (HB78.out.trans (HAS.out.below.mono HBW.out))) (fun C hC => ?_);clear hF;refine ChainH.step (v := ?_) rfl rfl rfl rfl ?_ ?_
      rotate_left
      · intro a hF w' hw
        have s10 := hF.slot 10 _ rfl
        clear hw
        clear hF
        go_simp <;> with_reducible rfl
      refine hC _ (fun a hF => ?_);clear hC C;refine held_one (n := 8) (fuel := 0) (by kernel_rfl) ?_;refine zu2 42 43 rfl rfl hF rfl rfl rfl ?_;clear hF;refine fun a hF => ⟨?_, ?_⟩
      · intro _
        exact HST.out _ HBE.out
      refine held_end (by kernel_rfl) ?_;replace hF := hF.k6 1 3 7 8 9 10 rfl rfl rfl rfl rfl rfl
      have hrs := HAS.out.set HMB.out (o := 6) (v := .slice dm (l.dn + 1) dk)
      exact hKD _ _ ⟨dm, dk, hF, HBE, HMx.out.setDoors dm dk d, hdl ▸ hrs⟩
  clear hF HAS HST HRC HMd HBZ HMB HBW HB78 HGM
  rintro a w9 ⟨dm, dk, hF, HB79, HM9, HDR⟩
  have HB9 : Hid (Below w.heap.size w w9) := HB7.out.trans (HB79.out.mono HB7.out.size)
  have HL9 := Lib.hid (HL7.out.down HB79.out)
  have HA9 := Lib.hid (HA7.out.down HB79.out)
  have HH9 := Lib.hid (HH7.out.down HB79.out)
  have HR9 := Lib.hid (HR7.out.of_heap (HB79.out.block gr HR7.out.lt))
  clear HB7 HB79 HL7 HA7 HD7 HH7 HR7
  obtain ⟨m0, m1, m2, m3, m4, m5, m6, m7⟩ := HM9.out.cells
  refine wp_seq_k (fun K hK => ?_);refine region_seq (l := [0, 1, 2]) (by kernel_rfl) ?_;refine seq_chain [(0, true)] [1, 2] rfl hF (fun C hC => ?_);clear hF;refine zs1 10 rfl rfl ?_;refine hC _ (fun a hF => ?_);clear hC C;refine seq_one ?_;refine op_call [_] rfl rfl hF rfl (by kernel_rfl) ⟨rfl, trivial⟩ (fun K hK => ?_);clear hF
  refine (reached_any w9 (moreL l dm dk d) (HG.out.1.below HB9.out).aisles HDR.out (by show l.sn ≤ _; omega) (by show l.dn + 1 ≤ _; omega)).mono ?_
  rintro e w10 ⟨⟨gs, rfl, _, hr⟩, hb⟩
  have HY : Hid (WyB w w10 l gl gh ga (reachS l.aisles l.doors) gr (reachS l.aisles (l.doors ++ [d])) gs) := ⟨HB9.out.trans (hb.mono HB9.out.size), HL9.out.down hb, HH9.out.down hb, HA9.out.down hb, HR9.out.of_heap (hb.block gr HR9.out.lt), hr⟩
  have hsl : (moreL l dm dk d).sn = l.sn := rfl
  rw [hsl]
  clear hsl m0 m1 m2 m3 m4 m5 m6 m7 HB9 HL9 HA9 HH9 HR9 hr hb HM9 HDR
  refine hK _ _ (fun a hF => ?_);clear hK K;refine seq_chain [(2, true)] [] rfl hF (fun C hC => ?_);clear hF;refine za rfl rfl rfl ?_;refine hC _ (fun a hF => ?_);clear hC C;refine seq_end ?_;replace hF := hF.k6 1 3 7 8 9 11 rfl rfl rfl rfl rfl rfl;refine hK _ _ ?_;clear hK;(try clear K)
  obtain ⟨l0, l1, l2, l3, l4, l5, l6, l7⟩ := HY.out.lev.cells
  refine wp_seq_k (fun K hK => ?_);refine region_seq (l := [0, 1, 2, 3]) (by kernel_rfl) ?_;refine seq_chain [(0, true), (1, true), (2, true), (3, true)] [] rfl hF (fun C hC => ?_);clear hF;refine zs1 3 rfl rfl ?_;refine zs1 46 rfl rfl ?_;refine zs1 47 rfl rfl ?_;refine za rfl rfl rfl ?_;refine hC _ (fun a hF => ?_);clear hC C;refine seq_end ?_;replace hF := hF.k7 1 3 7 8 9 11 12 rfl rfl rfl rfl rfl rfl rfl
  clear l0 l1 l2 l3 l4 l5 l6 l7
  refine hK _ _ ?_;clear hK;(try clear K);refine wp_seq_k (fun K hK => ?_);refine wp_seq_k (fun K hK => ?_);refine region_seq (l := [0, 1, 2, 3, 4, 5, 6, 7, 8, 9]) (by kernel_rfl) ?_;refine seq_chain [(0, true), (1, true), (2, true), (3, true), (4, true), (5, true), (6, true), (7, true), (8, true), (9, true)] [] rfl hF (fun C hC => ?_);clear hF;refine zm rfl rfl rfl ?_;refine zs1 49 rfl rfl ?_;refine zm rfl rfl rfl ?_;refine zs2 50 51 rfl rfl rfl ?_;refine zm rfl rfl rfl ?_;refine zm rfl rfl rfl ?_;refine zs1 54 rfl rfl ?_;refine zm rfl rfl rfl ?_;refine zs2 55 56 rfl rfl rfl ?_;refine zs2 53 57 rfl rfl rfl ?_;refine hC _ (fun a hF => ?_);clear hC C;refine seq_end ?_;replace hF := hF.k8 1 3 7 8 9 11 12 58 rfl rfl rfl rfl rfl rfl rfl rfl;refine hK _ _ ?_;clear hK;(try clear K)
  refine cond_no hF rfl ?_
  refine wp_skip ?_
  refine hK _ _ ?_;clear hK;(try clear K);refine wp_seq_k (fun K hK => ?_);refine region_seq (l := [0, 1, 2, 3, 4]) (by kernel_rfl) ?_;refine seq_chain [(0, true), (1, true), (2, true), (3, true), (4, true)] [] rfl hF (fun C hC => ?_);clear hF;refine zm rfl rfl rfl ?_;refine zs1 59 rfl rfl ?_;refine zm rfl rfl rfl ?_;refine zs2 60 61 rfl rfl rfl ?_;refine za rfl rfl rfl ?_;refine hC _ (fun a hF => ?_);clear hC C;refine seq_end ?_;replace hF := hF.k8 1 3 7 8 9 11 12 13 rfl rfl rfl rfl rfl rfl rfl rfl;refine hK _ _ ?_;clear hK;(try clear K)
  have hc0 : decide (l.sn ≤ sn) = closedI S l.aisles l.doors 0 := by rw [closed_zero, HSN.out, HSL.out]
  rw [hc0] at hF
  clear hc0
  refine seq_cut (fun a' w' => FrF 282 [] [(1, .slice ra sn sc), (3, .pointer (some ⟨gl, 0, none⟩)), (7, .bool true), (8, .pointer (some ⟨gh, 0, none⟩)), (9, .slice (some ⟨gr, 0, none⟩) l.sn l.sn), (11, .slice (some ⟨gs, 0, none⟩) l.sn l.sn), (12, .int .i64 l.sn), (13, .bool (closedI S l.aisles l.doors l.sn))] a' ∧ Hid (WyB w w' l gl gh ga (reachS l.aisles l.doors) gr (reachS l.aisles (l.doors ++ [d])) gs)) (fun KL hKL => ?_) ?_
  · refine wp_seq_k (fun K hK => ?_);refine region_seq (l := [0]) (by kernel_rfl) ?_;refine seq_chain [(0, true)] [] rfl hF (fun C hC => ?_);clear hF;refine za rfl rfl rfl ?_;refine hC _ (fun a hF => ?_);clear hC C;refine seq_end ?_;replace hF := hF.k9 1 3 7 8 9 11 12 13 14 rfl rfl rfl rfl rfl rfl rfl rfl rfl;refine hK _ _ ?_;clear hK;(try clear K)
    refine wp_block ?_
    refine loop_fr (fun q a' w' => ∃ i : Nat, i + q = l.sn ∧ FrF 282 [] [(1, .slice ra sn sc), (3, .pointer (some ⟨gl, 0, none⟩)), (7, .bool true), (8, .pointer (some ⟨gh, 0, none⟩)), (9, .slice (some ⟨gr, 0, none⟩) l.sn l.sn), (11, .slice (some ⟨gs, 0, none⟩) l.sn l.sn), (12, .int .i64 l.sn), (13, .bool (closedI S l.aisles l.doors i)), (14, .int .i64 i)] a' ∧ Hid (WyB w w' l gl gh ga (reachS l.aisles l.doors) gr (reachS l.aisles (l.doors ++ [d])) gs)) l.sn ⟨0, by omega, hF, HY⟩ ?_
    clear hF HY
    rintro rk a wr ⟨i, hik, hF, HY⟩ KB hKB
    refine wp_seq_k (fun K hK => ?_);refine wp_seq_k (fun K hK => ?_)
    obtain ⟨cc, hcc⟩ : ∃ cc, cc = closedI S l.aisles l.doors i := ⟨_, rfl⟩
    rw [← hcc] at hF
    have HCC := Lib.hid hcc
    clear hcc
    by_cases hlt : i < l.sn
    rotate_left
    · have hlti : ¬ (i : Int) < (l.sn : Nat) := by omega
      refine region_seq (l := [0, 1, 2, 3, 4, 5]) (by kernel_rfl) ?_;refine seq_chain [(0, true), (1, true), (2, true), (3, true), (4, true), (5, true)] [] rfl hF (fun C hC => ?_);clear hF;refine zm rfl rfl rfl ?_;refine zm rfl rfl rfl ?_;refine zs2 63 64 rfl rfl rfl ?_;refine zm rfl rfl rfl ?_;refine zX rfl rfl rfl rfl ?_;refine zs2 66 67 rfl rfl rfl ?_;refine hC _ (fun a hF => ?_);clear hC C;refine seq_end ?_;replace hF := hF.k10 1 3 7 8 9 11 12 13 14 68 rfl rfl rfl rfl rfl rfl rfl rfl rfl rfl;refine hK _ _ ?_;clear hK;(try clear K)
      refine cond_no hF rfl ?_
      refine wp_exit ?_
      have hie : i = l.sn := by omega
      rw [HCC.out, hie] at hF
      exact hKL _ _ ⟨hF.sub ⟨rfl, rfl, rfl, rfl, rfl, rfl, rfl, rfl, trivial⟩, HY⟩
    have hlti : (i : Int) < (l.sn : Nat) := by omega
    cases cc
    · refine region_seq (l := [0, 1, 2, 3, 4, 5]) (by kernel_rfl) ?_;refine seq_chain [(0, true), (1, true), (2, true), (3, true), (4, true), (5, true)] [] rfl hF (fun C hC => ?_);clear hF;refine zm rfl rfl rfl ?_;refine zm rfl rfl rfl ?_;refine zs2 63 64 rfl rfl rfl ?_;refine zm rfl rfl rfl ?_;refine zm rfl rfl rfl ?_;refine zs2 66 67 rfl rfl rfl ?_;refine hC _ (fun a hF => ?_);clear hC C;refine seq_end ?_;replace hF := hF.k10 1 3 7 8 9 11 12 13 14 68 rfl rfl rfl rfl rfl rfl rfl rfl rfl rfl;refine hK _ _ ?_;clear hK;(try clear K)
      refine cond_no hF rfl ?_
      refine wp_exit ?_
      have hst : closedI S l.aisles l.doors l.sn = false := by
        have := closed_stop HCC.out.symm (l.sn - i)
        rwa [Nat.add_sub_cancel' (Nat.le_of_lt hlt)] at this
      refine hKL _ _ ⟨?_, HY⟩
      rw [hst]
      exact hF.sub ⟨rfl, rfl, rfl, rfl, rfl, rfl, rfl, rfl, trivial⟩
    refine region_seq (l := [0, 1, 2, 3, 4, 5]) (by kernel_rfl) ?_;refine seq_chain [(0, true), (1, true), (2, true), (3, true), (4, true), (5, true)] [] rfl hF (fun C hC => ?_);clear hF;refine zm rfl rfl rfl ?_;refine zm rfl rfl rfl ?_;refine zs2 63 64 rfl rfl rfl ?_;refine zm rfl rfl rfl ?_;refine zm rfl rfl rfl ?_;refine zs2 66 67 rfl rfl rfl ?_;refine hC _ (fun a hF => ?_);clear hC C;refine seq_end ?_;replace hF := hF.k10 1 3 7 8 9 11 12 13 14 68 rfl rfl rfl rfl rfl rfl rfl rfl rfl rfl;refine hK _ _ ?_;clear hK;(try clear K)
    refine cond_yes hF rfl ?_
    refine wp_skip ?_
    refine hK _ _ ?_;clear hK;(try clear K);replace hF := hF.k9 1 3 7 8 9 11 12 13 14 rfl rfl rfl rfl rfl rfl rfl rfl rfl
    clear hKL
    have hsl : l.sn ≤ sn := by
      have := closed_len HCC.out.symm
      rw [HSN.out, HSL.out] at this
      exact this
    have his : i < sn := by omega
    have hisi : (i : Int) < (sn : Nat) := by omega
    have hil : i < l.aisles.length := by rw [HSN.out]; exact hlt
    obtain ⟨sb, so, hra, cs⟩ := bool_at (HS.out.below HY.out.below) i his
    subst hra
    clear cs
    refine seq_cut (fun a' w' => FrF 282 [] [(1, .slice (some ⟨sb, so, none⟩) sn sc), (3, .pointer (some ⟨gl, 0, none⟩)), (7, .bool true), (8, .pointer (some ⟨gh, 0, none⟩)), (9, .slice (some ⟨gr, 0, none⟩) l.sn l.sn), (11, .slice (some ⟨gs, 0, none⟩) l.sn l.sn), (12, .int .i64 l.sn), (13, .bool (meetK S l.aisles l.doors i l.sn)), (14, .int .i64 i)] a' ∧ Hid (WyB w w' l gl gh ga (reachS l.aisles l.doors) gr (reachS l.aisles (l.doors ++ [d])) gs)) (fun KC hKC => ?_) ?_
    rotate_left
    · clear hF HY
      rintro a w' ⟨hF, HY⟩
      have hws : IntKind.i64.wrap ((i : Int) + 1) = ((i + 1 : Nat) : Int) := wrap_succ (by omega)
      have hnx : meetK S l.aisles l.doors i l.sn = closedI S l.aisles l.doors (i + 1) := by
        rw [closed_next, ← HCC.out, Bool.true_and, ← HSN.out]
        rfl
      rw [hnx] at hF
      clear hnx
      refine region_seq (l := [0, 1, 2]) (by kernel_rfl) ?_;refine seq_chain [(0, true), (1, true), (2, true)] [] rfl hF (fun C hC => ?_);clear hF;refine zm rfl rfl rfl ?_;refine zs1 69 rfl rfl ?_;refine za rfl rfl rfl ?_;refine hC _ (fun a hF => ?_);clear hC C;refine seq_end ?_;replace hF := hF.k9 1 3 7 8 9 11 12 13 14 rfl rfl rfl rfl rfl rfl rfl rfl rfl
      exact hKB (l.sn - (i + 1)) _ _ (by omega) ⟨i + 1, by omega, hF, HY⟩
    clear hKB hik
    refine wp_block ?_
    refine seq_cut (fun a' w' => FrF 282 [] [(1, .slice (some ⟨sb, so, none⟩) sn sc), (3, .pointer (some ⟨gl, 0, none⟩)), (7, .bool true), (8, .pointer (some ⟨gh, 0, none⟩)), (9, .slice (some ⟨gr, 0, none⟩) l.sn l.sn), (11, .slice (some ⟨gs, 0, none⟩) l.sn l.sn), (12, .int .i64 l.sn), (13, .bool (meetK S l.aisles l.doors i 0)), (14, .int .i64 i)] a' ∧ Hid (WyB w w' l gl gh ga (reachS l.aisles l.doors) gr (reachS l.aisles (l.doors ++ [d])) gs)) (fun KD hKD => ?_) ?_
    · refine wp_seq_k (fun K hK => ?_);refine region_seq (l := [0]) (by kernel_rfl) ?_;refine seq_chain [(0, true)] [] rfl hF (fun C hC => ?_);clear hF;refine za rfl rfl rfl ?_;refine hC _ (fun a hF => ?_);clear hC C;refine seq_end ?_;replace hF := hF.k10 1 3 7 8 9 11 12 13 14 15 rfl rfl rfl rfl rfl rfl rfl rfl rfl rfl;refine hK _ _ ?_;clear hK;(try clear K)
      refine wp_block ?_
      refine loop_fr (fun q a' w' => ∃ k : Nat, k + q = l.dn ∧ FrF 282 [] [(1, .slice (some ⟨sb, so, none⟩) sn sc), (3, .pointer (some ⟨gl, 0, none⟩)), (7, .bool true), (8, .pointer (some ⟨gh, 0, none⟩)), (9, .slice (some ⟨gr, 0, none⟩) l.sn l.sn), (11, .slice (some ⟨gs, 0, none⟩) l.sn l.sn), (12, .int .i64 l.sn), (13, .bool (doorK S l.aisles l.doors i k)), (14, .int .i64 i), (15, .int .i64 k)] a' ∧ Hid (WyB w w' l gl gh ga (reachS l.aisles l.doors) gr (reachS l.aisles (l.doors ++ [d])) gs)) l.dn ⟨0, by omega, hF, HY⟩ ?_
      clear hF HY
      rintro rj a wr ⟨k, hkk, hF, HY⟩ KE hKE
      refine wp_seq_k (fun K hK => ?_);refine wp_seq_k (fun K hK => ?_)
      obtain ⟨l0, l1, l2, l3, l4, l5, l6, l7⟩ := HY.out.lev.cells
      by_cases hlk : k < l.dn
      rotate_left
      · have hlki : ¬ (k : Int) < (l.dn : Nat) := by omega
        refine region_seq (l := [0, 1, 2, 3, 4]) (by kernel_rfl) ?_;refine seq_chain [(0, true), (1, true), (2, true), (3, true), (4, true)] [] rfl hF (fun C hC => ?_);clear hF;refine zm rfl rfl rfl ?_;refine zs1 3 rfl rfl ?_;refine zs1 72 rfl rfl ?_;refine zs1 73 rfl rfl ?_;refine zs2 71 74 rfl rfl rfl ?_;refine hC _ (fun a hF => ?_);clear hC C;refine seq_end ?_;replace hF := hF.k11 1 3 7 8 9 11 12 13 14 15 75 rfl rfl rfl rfl rfl rfl rfl rfl rfl rfl rfl;refine hK _ _ ?_;clear hK;(try clear K)
        refine cond_no hF rfl ?_
        refine wp_exit ?_
        have hie : k = l.doors.length := by rw [HDN.out]; omega
        rw [hie, doorK_all] at hF
        clear l0 l1 l2 l3 l4 l5 l6 l7
        exact hKD _ _ ⟨hF.sub ⟨rfl, rfl, rfl, rfl, rfl, rfl, rfl, rfl, rfl, trivial⟩, HY⟩
      have hlki : (k : Int) < (l.dn : Nat) := by omega
      refine region_seq (l := [0, 1, 2, 3, 4]) (by kernel_rfl) ?_;refine seq_chain [(0, true), (1, true), (2, true), (3, true), (4, true)] [] rfl hF (fun C hC => ?_);clear hF;refine zm rfl rfl rfl ?_;refine zs1 3 rfl rfl ?_;refine zs1 72 rfl rfl ?_;refine zs1 73 rfl rfl ?_;refine zs2 71 74 rfl rfl rfl ?_;refine hC _ (fun a hF => ?_);clear hC C;refine seq_end ?_;replace hF := hF.k11 1 3 7 8 9 11 12 13 14 15 75 rfl rfl rfl rfl rfl rfl rfl rfl rfl rfl rfl;refine hK _ _ ?_;clear hK;(try clear K)
      refine cond_yes hF rfl ?_
      refine wp_skip ?_
      refine hK _ _ ?_;clear hK;(try clear K);replace hF := hF.k10 1 3 7 8 9 11 12 13 14 15 rfl rfl rfl rfl rfl rfl rfl rfl rfl rfl
      clear hKD
      have hkl : k < l.doors.length := by rw [HDN.out]; exact hlk
      have HNX := Lib.hid (doorK_next (S := S) (A := l.aisles) (i := i) hkl)
      refine seq_cut (fun a' w' => FrF 282 [] [(1, .slice (some ⟨sb, so, none⟩) sn sc), (3, .pointer (some ⟨gl, 0, none⟩)), (7, .bool true), (8, .pointer (some ⟨gh, 0, none⟩)), (9, .slice (some ⟨gr, 0, none⟩) l.sn l.sn), (11, .slice (some ⟨gs, 0, none⟩) l.sn l.sn), (12, .int .i64 l.sn), (13, .bool (doorK S l.aisles l.doors i (k + 1))), (14, .int .i64 i), (15, .int .i64 k)] a' ∧ Hid (WyB w w' l gl gh ga (reachS l.aisles l.doors) gr (reachS l.aisles (l.doors ++ [d])) gs)) (fun KF hKF => ?_) ?_
      rotate_left
      · clear hF HY l0 l1 l2 l3 l4 l5 l6 l7
        rintro a w' ⟨hF, HY⟩
        have hws : IntKind.i64.wrap ((k : Int) + 1) = ((k + 1 : Nat) : Int) := wrap_succ (by omega)
        refine region_seq (l := [0, 1, 2]) (by kernel_rfl) ?_;refine seq_chain [(0, true), (1, true), (2, true)] [] rfl hF (fun C hC => ?_);clear hF;refine zm rfl rfl rfl ?_;refine zs1 76 rfl rfl ?_;refine za rfl rfl rfl ?_;refine hC _ (fun a hF => ?_);clear hC C;refine seq_end ?_;replace hF := hF.k10 1 3 7 8 9 11 12 13 14 15 rfl rfl rfl rfl rfl rfl rfl rfl rfl rfl
        exact hKE (l.dn - (k + 1)) _ _ (by omega) ⟨k + 1, by omega, hF, HY⟩
      clear hKE hkk
      refine wp_block ?_
      obtain ⟨b, hb⟩ : ∃ b, b = doorK S l.aisles l.doors i k := ⟨_, rfl⟩
      rw [← hb] at hF HNX
      clear hb
      cases b
      · refine region_any (by kernel_rfl) ?_;refine any_chain (fuel := 0) [(0, false), (1, false), (2, false), (3, false), (4, false), (5, true), (6, false), (7, false), (8, true), (9, false), (10, false), (11, false), (12, true), (13, false), (14, true), (15, false), (16, false), (17, false), (18, true), (19, false), (20, true), (21, false), (22, false), (23, true), (24, true), (25, false), (26, false), (27, false), (28, false)] [] rfl (by kernel_rfl) (by kernel_rfl) hF (fun _ _ d _ _ h => by cases d <;> exact h) (fun C hC => ?_);clear hF;refine zm rfl rfl rfl ?_;refine zm rfl rfl rfl ?_;refine zX rfl rfl rfl rfl ?_;refine zX rfl rfl rfl rfl ?_;refine zX rfl rfl rfl rfl ?_;refine zX rfl rfl rfl rfl ?_;refine zX rfl rfl rfl rfl ?_;refine zX rfl rfl rfl rfl ?_;refine zX rfl rfl rfl rfl ?_;refine zX rfl rfl rfl rfl ?_;refine zX rfl rfl rfl rfl ?_;refine zX rfl rfl rfl rfl ?_;refine zX rfl rfl rfl rfl ?_;refine zX rfl rfl rfl rfl ?_;refine zX rfl rfl rfl rfl ?_;refine zX rfl rfl rfl rfl ?_;refine zX rfl rfl rfl rfl ?_;refine zX rfl rfl rfl rfl ?_;refine zX rfl rfl rfl rfl ?_;refine zX rfl rfl rfl rfl ?_;refine zX rfl rfl rfl rfl ?_;refine zX rfl rfl rfl rfl ?_;refine zX rfl rfl rfl rfl ?_;refine zX rfl rfl rfl rfl ?_;refine zX rfl rfl rfl rfl ?_;refine zX rfl rfl rfl rfl ?_;refine zX rfl rfl rfl rfl ?_;refine zy2 79 104 rfl rfl rfl ?_;refine za rfl rfl rfl ?_;refine hC _ (fun a hF => ?_);clear hC C;refine any_end (by kernel_rfl) ?_;replace hF := hF.k10 1 3 7 8 9 11 12 13 14 15 rfl rfl rfl rfl rfl rfl rfl rfl rfl rfl
        refine hKF _ _ ⟨?_, Lib.hid HY.out.drew⟩
        rw [HNX.out]
        exact hF
      obtain ⟨sb', so', hra', cs⟩ := bool_at (HS.out.below HY.out.below) i his
      obtain ⟨rfl, rfl⟩ : sb = sb' ∧ so = so' := by simpa using hra'
      clear hra'
      have HDC : Hid (doorC S l.aisles i l.doors[k] = (bx S i || !insideB l.aisles[i] l.doors[k].x l.doors[k].y)) := by
        show _ = _
        unfold doorC
        rw [List.getElem?_eq_getElem hil]
      obtain ⟨bb, hbb⟩ : ∃ bb, bb = bx S i := ⟨_, rfl⟩
      rw [← hbb] at cs HDC
      clear hbb
      cases bb
      · obtain ⟨ba, oa, hla, e0, e1, e2, e3⟩ := box_at (HG.out.1.below HY.out.below).aisles i hlt hil
        obtain ⟨bd, od, hld, f0, f1⟩ := pnt_at (HG.out.1.below HY.out.below).doors k hlk hkl
        rw [hla] at l4
        rw [hld] at l6
        generalize l.doors[k] = dk at *
        generalize l.aisles[i] = ai at *
        refine region_any (by kernel_rfl) ?_;refine any_chain (fuel := 5) [(0, false), (1, false), (2, false), (3, false), (4, false), (5, true), (6, false), (7, false), (8, true), (9, false), (10, false), (11, false), (12, true), (13, false), (14, true), (15, false), (16, false), (17, false), (18, true), (19, false), (20, true), (21, false), (22, false), (23, true)] [24] rfl (by kernel_rfl) (by kernel_rfl) hF (fun _ _ d _ _ h => by cases d <;> exact h) (fun C hC => ?_);clear hF;refine zm rfl rfl rfl ?_;refine zm rfl rfl rfl ?_;refine zm rfl rfl rfl ?_;refine zm rfl rfl rfl ?_;refine zy2 80 81 rfl rfl rfl ?_;refine zs1 82 rfl rfl ?_;refine zm rfl rfl rfl ?_;refine zy1 3 rfl rfl ?_;refine zs1 85 rfl rfl ?_;refine zm rfl rfl rfl ?_;refine zy2 86 87 rfl rfl rfl ?_;refine zy1 88 rfl rfl ?_;refine zs1 89 rfl rfl ?_;refine zy1 3 rfl rfl ?_;refine zs1 91 rfl rfl ?_;refine zm rfl rfl rfl ?_;refine zy2 92 93 rfl rfl rfl ?_;refine zy1 94 rfl rfl ?_;refine zs1 95 rfl rfl ?_;refine zy1 3 rfl rfl ?_;refine zs1 97 rfl rfl ?_;refine zm rfl rfl rfl ?_;refine zy2 98 99 rfl rfl rfl ?_;refine zs1 100 rfl rfl ?_;refine hC _ (fun a hF => ?_);clear hC C;refine any_one (n := 24) (fuel := 4) (by kernel_rfl) ?_;refine op_call [_, _, _] rfl rfl hF rfl (by kernel_rfl) ⟨rfl, rfl, rfl, trivial⟩ (fun K hK => ?_);clear hF
        refine (rin_any _ ai dk.x dk.y).mono ?_
        rintro e w5 ⟨rfl, hb5⟩
        have HY2 := Lib.hid (HY.out.drew.down hb5)
        clear HY hb5 l0 l1 l2 l3 l4 l5 l6 l7 e0 e1 e2 e3 f0 f1 cs
        refine hK _ _ (fun a hF => ?_);clear hK K;refine any_chain (fuel := 0) [(25, false), (26, false), (27, false), (28, false)] [] rfl (by kernel_rfl) (by kernel_rfl) hF (fun _ _ d _ _ h => by cases d <;> exact h) (fun C hC => ?_);clear hF;refine zy1 102 rfl rfl ?_;refine zy2 84 103 rfl rfl rfl ?_;refine zy2 79 104 rfl rfl rfl ?_;refine za rfl rfl rfl ?_;refine hC _ (fun a hF => ?_);clear hC C;refine any_end (by kernel_rfl) ?_;replace hF := hF.k10 1 3 7 8 9 11 12 13 14 15 rfl rfl rfl rfl rfl rfl rfl rfl rfl rfl
        refine hKF _ _ ⟨?_, HY2⟩
        rw [HNX.out, HDC.out]
        exact hF
      · refine region_any (by kernel_rfl) ?_;refine any_chain (fuel := 0) [(0, false), (1, false), (2, false), (3, false), (4, false), (5, true), (6, false), (7, false), (8, true), (9, false), (10, false), (11, false), (12, true), (13, false), (14, true), (15, false), (16, false), (17, false), (18, true), (19, false), (20, true), (21, false), (22, false), (23, true), (24, true), (25, false), (26, false), (27, false), (28, false)] [] rfl (by kernel_rfl) (by kernel_rfl) hF (fun _ _ d _ _ h => by cases d <;> exact h) (fun C hC => ?_);clear hF;refine zm rfl rfl rfl ?_;refine zm rfl rfl rfl ?_;refine zm rfl rfl rfl ?_;refine zm rfl rfl rfl ?_;refine zy2 80 81 rfl rfl rfl ?_;refine zs1 82 rfl rfl ?_;refine zm rfl rfl rfl ?_;refine zX rfl rfl rfl rfl ?_;refine zX rfl rfl rfl rfl ?_;refine zX rfl rfl rfl rfl ?_;refine zX rfl rfl rfl rfl ?_;refine zX rfl rfl rfl rfl ?_;refine zX rfl rfl rfl rfl ?_;refine zX rfl rfl rfl rfl ?_;refine zX rfl rfl rfl rfl ?_;refine zX rfl rfl rfl rfl ?_;refine zX rfl rfl rfl rfl ?_;refine zX rfl rfl rfl rfl ?_;refine zX rfl rfl rfl rfl ?_;refine zX rfl rfl rfl rfl ?_;refine zX rfl rfl rfl rfl ?_;refine zX rfl rfl rfl rfl ?_;refine zX rfl rfl rfl rfl ?_;refine zX rfl rfl rfl rfl ?_;refine zX rfl rfl rfl rfl ?_;refine zX rfl rfl rfl rfl ?_;refine zy2 84 103 rfl rfl rfl ?_;refine zy2 79 104 rfl rfl rfl ?_;refine za rfl rfl rfl ?_;refine hC _ (fun a hF => ?_);clear hC C;refine any_end (by kernel_rfl) ?_;replace hF := hF.k10 1 3 7 8 9 11 12 13 14 15 rfl rfl rfl rfl rfl rfl rfl rfl rfl rfl
        refine hKF _ _ ⟨?_, Lib.hid HY.out.drew⟩
        rw [HNX.out, HDC.out]
        exact hF
    clear hF HY
    rintro a wr ⟨hF, HY⟩
    refine wp_seq_k (fun K hK => ?_);refine region_seq (l := [0]) (by kernel_rfl) ?_;refine seq_chain [(0, true)] [] rfl hF (fun C hC => ?_);clear hF;refine za rfl rfl rfl ?_;refine hC _ (fun a hF => ?_);clear hC C;refine seq_end ?_;replace hF := hF.k10 1 3 7 8 9 11 12 13 14 16 rfl rfl rfl rfl rfl rfl rfl rfl rfl rfl;refine hK _ _ ?_;clear hK;(try clear K)
    refine wp_block ?_
    refine loop_fr (fun q a' w' => ∃ k : Nat, k + q = l.sn ∧ FrF 282 [] [(1, .slice (some ⟨sb, so, none⟩) sn sc), (3, .pointer (some ⟨gl, 0, none⟩)), (7, .bool true), (8, .pointer (some ⟨gh, 0, none⟩)), (9, .slice (some ⟨gr, 0, none⟩) l.sn l.sn), (11, .slice (some ⟨gs, 0, none⟩) l.sn l.sn), (12, .int .i64 l.sn), (13, .bool (meetK S l.aisles l.doors i k)), (14, .int .i64 i), (16, .int .i64 k)] a' ∧ Hid (WyB w w' l gl gh ga (reachS l.aisles l.doors) gr (reachS l.aisles (l.doors ++ [d])) gs)) l.sn ⟨0, by omega, hF, HY⟩ ?_
    clear hF HY
    rintro rj a wr ⟨k, hkk, hF, HY⟩ KE hKE
    refine wp_seq_k (fun K hK => ?_);refine wp_seq_k (fun K hK => ?_)
    by_cases hlk : k < l.sn
    rotate_left
    · have hlki : ¬ (k : Int) < (l.sn : Nat) := by omega
      refine region_seq (l := [0, 1, 2]) (by kernel_rfl) ?_;refine seq_chain [(0, true), (1, true), (2, true)] [] rfl hF (fun C hC => ?_);clear hF;refine zm rfl rfl rfl ?_;refine zm rfl rfl rfl ?_;refine zs2 106 107 rfl rfl rfl ?_;refine hC _ (fun a hF => ?_);clear hC C;refine seq_end ?_;replace hF := hF.k11 1 3 7 8 9 11 12 13 14 16 108 rfl rfl rfl rfl rfl rfl rfl rfl rfl rfl rfl;refine hK _ _ ?_;clear hK;(try clear K)
      refine cond_no hF rfl ?_
      refine wp_exit ?_
      have hie : k = l.sn := by omega
      rw [hie] at hF
      exact hKC _ _ ⟨hF.sub ⟨rfl, rfl, rfl, rfl, rfl, rfl, rfl, rfl, rfl, trivial⟩, HY⟩
    have hlki : (k : Int) < (l.sn : Nat) := by omega
    refine region_seq (l := [0, 1, 2]) (by kernel_rfl) ?_;refine seq_chain [(0, true), (1, true), (2, true)] [] rfl hF (fun C hC => ?_);clear hF;refine zm rfl rfl rfl ?_;refine zm rfl rfl rfl ?_;refine zs2 106 107 rfl rfl rfl ?_;refine hC _ (fun a hF => ?_);clear hC C;refine seq_end ?_;replace hF := hF.k11 1 3 7 8 9 11 12 13 14 16 108 rfl rfl rfl rfl rfl rfl rfl rfl rfl rfl rfl;refine hK _ _ ?_;clear hK;(try clear K)
    refine cond_yes hF rfl ?_
    refine wp_skip ?_
    refine hK _ _ ?_;clear hK;(try clear K);replace hF := hF.k10 1 3 7 8 9 11 12 13 14 16 rfl rfl rfl rfl rfl rfl rfl rfl rfl rfl
    clear hKC
    have hkl : k < l.aisles.length := by rw [HSN.out]; exact hlk
    have hks : k < sn := by omega
    have hksi : (k : Int) < (sn : Nat) := by omega
    have HNX := Lib.hid (meetK_next S l.aisles l.doors i k)
    refine seq_cut (fun a' w' => FrF 282 [] [(1, .slice (some ⟨sb, so, none⟩) sn sc), (3, .pointer (some ⟨gl, 0, none⟩)), (7, .bool true), (8, .pointer (some ⟨gh, 0, none⟩)), (9, .slice (some ⟨gr, 0, none⟩) l.sn l.sn), (11, .slice (some ⟨gs, 0, none⟩) l.sn l.sn), (12, .int .i64 l.sn), (13, .bool (meetK S l.aisles l.doors i (k + 1))), (14, .int .i64 i), (16, .int .i64 k)] a' ∧ Hid (WyB w w' l gl gh ga (reachS l.aisles l.doors) gr (reachS l.aisles (l.doors ++ [d])) gs)) (fun KF hKF => ?_) ?_
    rotate_left
    · clear hF HY
      rintro a w' ⟨hF, HY⟩
      have hws : IntKind.i64.wrap ((k : Int) + 1) = ((k + 1 : Nat) : Int) := wrap_succ (by omega)
      refine region_seq (l := [0, 1, 2]) (by kernel_rfl) ?_;refine seq_chain [(0, true), (1, true), (2, true)] [] rfl hF (fun C hC => ?_);clear hF;refine zm rfl rfl rfl ?_;refine zs1 109 rfl rfl ?_;refine za rfl rfl rfl ?_;refine hC _ (fun a hF => ?_);clear hC C;refine seq_end ?_;replace hF := hF.k10 1 3 7 8 9 11 12 13 14 16 rfl rfl rfl rfl rfl rfl rfl rfl rfl rfl
      exact hKE (l.sn - (k + 1)) _ _ (by omega) ⟨k + 1, by omega, hF, HY⟩
    clear hKE hkk
    refine wp_block ?_
    obtain ⟨b, hb⟩ : ∃ b, b = meetK S l.aisles l.doors i k := ⟨_, rfl⟩
    rw [← hb] at hF HNX
    clear hb
    cases b
    · refine region_any (by kernel_rfl) ?_;refine any_chain (fuel := 0) [(0, false), (1, false), (2, false), (3, false), (4, false), (5, true), (6, false), (7, false), (8, false), (9, false), (10, false), (11, true), (12, false), (13, false), (14, false), (15, true), (16, false), (17, false), (18, true), (19, false), (20, true), (21, false), (22, false), (23, true), (24, true), (25, false), (26, false), (27, false), (28, false)] [] rfl (by kernel_rfl) (by kernel_rfl) hF (fun _ _ d _ _ h => by cases d <;> exact h) (fun C hC => ?_);clear hF;refine zm rfl rfl rfl ?_;refine zm rfl rfl rfl ?_;refine zX rfl rfl rfl rfl ?_;refine zX rfl rfl rfl rfl ?_;refine zX rfl rfl rfl rfl ?_;refine zX rfl rfl rfl rfl ?_;refine zX rfl rfl rfl rfl ?_;refine zX rfl rfl rfl rfl ?_;refine zX rfl rfl rfl rfl ?_;refine zX rfl rfl rfl rfl ?_;refine zX rfl rfl rfl rfl ?_;refine zX rfl rfl rfl rfl ?_;refine zX rfl rfl rfl rfl ?_;refine zX rfl rfl rfl rfl ?_;refine zX rfl rfl rfl rfl ?_;refine zX rfl rfl rfl rfl ?_;refine zX rfl rfl rfl rfl ?_;refine zX rfl rfl rfl rfl ?_;refine zX rfl rfl rfl rfl ?_;refine zX rfl rfl rfl rfl ?_;refine zX rfl rfl rfl rfl ?_;refine zX rfl rfl rfl rfl ?_;refine zX rfl rfl rfl rfl ?_;refine zX rfl rfl rfl rfl ?_;refine zX rfl rfl rfl rfl ?_;refine zX rfl rfl rfl rfl ?_;refine zX rfl rfl rfl rfl ?_;refine zy2 112 137 rfl rfl rfl ?_;refine za rfl rfl rfl ?_;refine hC _ (fun a hF => ?_);clear hC C;refine any_end (by kernel_rfl) ?_;replace hF := hF.k10 1 3 7 8 9 11 12 13 14 16 rfl rfl rfl rfl rfl rfl rfl rfl rfl rfl
      refine hKF _ _ ⟨?_, Lib.hid HY.out.drew⟩
      rw [HNX.out]
      exact hF
    obtain ⟨sb', so', hra', cs⟩ := bool_at (HS.out.below HY.out.below) i his
    obtain ⟨rfl, rfl⟩ : sb = sb' ∧ so = so' := by simpa using hra'
    clear hra'
    obtain ⟨sb', so', hra', ck⟩ := bool_at (HS.out.below HY.out.below) k hks
    obtain ⟨rfl, rfl⟩ : sb = sb' ∧ so = so' := by simpa using hra'
    clear hra'
    have HDC : Hid (meetC S l.aisles i k = (!bx S i || bx S k || !meetB l.aisles[i] l.aisles[k])) := by
      show _ = _
      unfold meetC
      rw [List.getElem?_eq_getElem hil, List.getElem?_eq_getElem hkl]
    obtain ⟨bb, hbb⟩ : ∃ bb, bb = bx S i := ⟨_, rfl⟩
    rw [← hbb] at cs HDC
    clear hbb
    obtain ⟨bk, hbk⟩ : ∃ bk, bk = bx S k := ⟨_, rfl⟩
    rw [← hbk] at ck HDC
    clear hbk
    cases bb
    · refine region_any (by kernel_rfl) ?_;refine any_chain (fuel := 0) [(0, false), (1, false), (2, false), (3, false), (4, false), (5, true), (6, false), (7, false), (8, false), (9, false), (10, false), (11, true), (12, false), (13, false), (14, false), (15, true), (16, false), (17, false), (18, true), (19, false), (20, true), (21, false), (22, false), (23, true), (24, true), (25, false), (26, false), (27, false), (28, false)] [] rfl (by kernel_rfl) (by kernel_rfl) hF (fun _ _ d _ _ h => by cases d <;> exact h) (fun C hC => ?_);clear hF;refine zm rfl rfl rfl ?_;refine zm rfl rfl rfl ?_;refine zm rfl rfl rfl ?_;refine zm rfl rfl rfl ?_;refine zy2 113 114 rfl rfl rfl ?_;refine zs1 115 rfl rfl ?_;refine zy1 116 rfl rfl ?_;refine zm rfl rfl rfl ?_;refine zX rfl rfl rfl rfl ?_;refine zX rfl rfl rfl rfl ?_;refine zX rfl rfl rfl rfl ?_;refine zX rfl rfl rfl rfl ?_;refine zy2 118 122 rfl rfl rfl ?_;refine zm rfl rfl rfl ?_;refine zX rfl rfl rfl rfl ?_;refine zX rfl rfl rfl rfl ?_;refine zX rfl rfl rfl rfl ?_;refine zX rfl rfl rfl rfl ?_;refine zX rfl rfl rfl rfl ?_;refine zX rfl rfl rfl rfl ?_;refine zX rfl rfl rfl rfl ?_;refine zX rfl rfl rfl rfl ?_;refine zX rfl rfl rfl rfl ?_;refine zX rfl rfl rfl rfl ?_;refine zX rfl rfl rfl rfl ?_;refine zX rfl rfl rfl rfl ?_;refine zy2 124 136 rfl rfl rfl ?_;refine zy2 112 137 rfl rfl rfl ?_;refine za rfl rfl rfl ?_;refine hC _ (fun a hF => ?_);clear hC C;refine any_end (by kernel_rfl) ?_;replace hF := hF.k10 1 3 7 8 9 11 12 13 14 16 rfl rfl rfl rfl rfl rfl rfl rfl rfl rfl
      refine hKF _ _ ⟨?_, Lib.hid HY.out.drew⟩
      rw [HNX.out, HDC.out]
      exact hF
    cases bk
    rotate_left
    · refine region_any (by kernel_rfl) ?_;refine any_chain (fuel := 0) [(0, false), (1, false), (2, false), (3, false), (4, false), (5, true), (6, false), (7, false), (8, false), (9, false), (10, false), (11, true), (12, false), (13, false), (14, false), (15, true), (16, false), (17, false), (18, true), (19, false), (20, true), (21, false), (22, false), (23, true), (24, true), (25, false), (26, false), (27, false), (28, false)] [] rfl (by kernel_rfl) (by kernel_rfl) hF (fun _ _ d _ _ h => by cases d <;> exact h) (fun C hC => ?_);clear hF;refine zm rfl rfl rfl ?_;refine zm rfl rfl rfl ?_;refine zm rfl rfl rfl ?_;refine zm rfl rfl rfl ?_;refine zy2 113 114 rfl rfl rfl ?_;refine zs1 115 rfl rfl ?_;refine zy1 116 rfl rfl ?_;refine zm rfl rfl rfl ?_;refine zm rfl rfl rfl ?_;refine zm rfl rfl rfl ?_;refine zy2 119 120 rfl rfl rfl ?_;refine zs1 121 rfl rfl ?_;refine zy2 118 122 rfl rfl rfl ?_;refine zm rfl rfl rfl ?_;refine zX rfl rfl rfl rfl ?_;refine zX rfl rfl rfl rfl ?_;refine zX rfl rfl rfl rfl ?_;refine zX rfl rfl rfl rfl ?_;refine zX rfl rfl rfl rfl ?_;refine zX rfl rfl rfl rfl ?_;refine zX rfl rfl rfl rfl ?_;refine zX rfl rfl rfl rfl ?_;refine zX rfl rfl rfl rfl ?_;refine zX rfl rfl rfl rfl ?_;refine zX rfl rfl rfl rfl ?_;refine zX rfl rfl rfl rfl ?_;refine zy2 124 136 rfl rfl rfl ?_;refine zy2 112 137 rfl rfl rfl ?_;refine za rfl rfl rfl ?_;refine hC _ (fun a hF => ?_);clear hC C;refine any_end (by kernel_rfl) ?_;replace hF := hF.k10 1 3 7 8 9 11 12 13 14 16 rfl rfl rfl rfl rfl rfl rfl rfl rfl rfl
      refine hKF _ _ ⟨?_, Lib.hid HY.out.drew⟩
      rw [HNX.out, HDC.out]
      exact hF
    obtain ⟨l0, l1, l2, l3, l4, l5, l6, l7⟩ := HY.out.lev.cells
    obtain ⟨ba, oa, hla, e0, e1, e2, e3⟩ := box_at (HG.out.1.below HY.out.below).aisles i hlt hil
    obtain ⟨bd, od, hld, f0, f1, f2, f3⟩ := box_at (HG.out.1.below HY.out.below).aisles k hlk hkl
    obtain ⟨rfl, rfl⟩ : ba = bd ∧ oa = od := by rw [hla] at hld; simpa using hld
    clear hld
    rw [hla] at l4
    generalize l.aisles[k] = ak at *
    generalize l.aisles[i] = ai at *
    refine region_any (by kernel_rfl) ?_;refine any_chain (fuel := 5) [(0, false), (1, false), (2, false), (3, false), (4, false), (5, true), (6, false), (7, false), (8, false), (9, false), (10, false), (11, true), (12, false), (13, false), (14, false), (15, true), (16, false), (17, false), (18, true), (19, false), (20, true), (21, false), (22, false), (23, true)] [24] rfl (by kernel_rfl) (by kernel_rfl) hF (fun _ _ d _ _ h => by cases d <;> exact h) (fun C hC => ?_);clear hF;refine zm rfl rfl rfl ?_;refine zm rfl rfl rfl ?_;refine zm rfl rfl rfl ?_;refine zm rfl rfl rfl ?_;refine zy2 113 114 rfl rfl rfl ?_;refine zs1 115 rfl rfl ?_;refine zy1 116 rfl rfl ?_;refine zm rfl rfl rfl ?_;refine zm rfl rfl rfl ?_;refine zm rfl rfl rfl ?_;refine zy2 119 120 rfl rfl rfl ?_;refine zs1 121 rfl rfl ?_;refine zy2 118 122 rfl rfl rfl ?_;refine zm rfl rfl rfl ?_;refine zy1 3 rfl rfl ?_;refine zs1 125 rfl rfl ?_;refine zm rfl rfl rfl ?_;refine zy2 126 127 rfl rfl rfl ?_;refine zs1 128 rfl rfl ?_;refine zy1 3 rfl rfl ?_;refine zs1 130 rfl rfl ?_;refine zm rfl rfl rfl ?_;refine zy2 131 132 rfl rfl rfl ?_;refine zs1 133 rfl rfl ?_;refine hC _ (fun a hF => ?_);clear hC C;refine any_one (n := 24) (fuel := 4) (by kernel_rfl) ?_;refine op_call [_, _] rfl rfl hF rfl (by kernel_rfl) ⟨rfl, rfl, trivial⟩ (fun K hK => ?_);clear hF
    refine (rmeet_any _ ai ak).mono ?_
    rintro e w5 ⟨rfl, hb5⟩
    have HY2 := Lib.hid (HY.out.drew.down hb5)
    clear HY hb5 l0 l1 l2 l3 l4 l5 l6 l7 e0 e1 e2 e3 f0 f1 f2 f3 cs ck
    refine hK _ _ (fun a hF => ?_);clear hK K;refine any_chain (fuel := 0) [(25, false), (26, false), (27, false), (28, false)] [] rfl (by kernel_rfl) (by kernel_rfl) hF (fun _ _ d _ _ h => by cases d <;> exact h) (fun C hC => ?_);clear hF;refine zy1 135 rfl rfl ?_;refine zy2 124 136 rfl rfl rfl ?_;refine zy2 112 137 rfl rfl rfl ?_;refine za rfl rfl rfl ?_;refine hC _ (fun a hF => ?_);clear hC C;refine any_end (by kernel_rfl) ?_;replace hF := hF.k10 1 3 7 8 9 11 12 13 14 16 rfl rfl rfl rfl rfl rfl rfl rfl rfl rfl
    refine hKF _ _ ⟨?_, HY2⟩
    rw [HNX.out, HDC.out]
    exact hF
  clear hF HY
  rintro a w11 ⟨hF, HY⟩
  obtain ⟨cc, hcc⟩ : ∃ cc, cc = closedI S l.aisles l.doors l.sn := ⟨_, rfl⟩
  rw [← hcc] at hF
  have HCC : Hid (cc = true → l.sn ≤ sn ∧ ∀ j, j < l.sn → bx (reachS l.aisles l.doors) j = true → bx S j = true) := fun h => by
    rw [h] at hcc
    have h1 := closed_len hcc.symm
    rw [HSN.out, HSL.out] at h1
    refine ⟨h1, fun j hj hr => ?_⟩
    rw [← HSN.out] at hcc hj
    exact rch_closed hcc.symm ((reachS_bx hj).1 hr)
  clear hcc
  have HMO : Hid (∀ j, j < l.sn → bx (reachS l.aisles l.doors) j = true → bx (reachS l.aisles (l.doors ++ [d])) j = true) := fun j hj hr => by
    rw [← HSN.out] at hj
    exact (reachS_bx hj).2 (rch_more (fun d hd => List.mem_append_left _ hd) ((reachS_bx hj).1 hr))
  refine seq_cut (fun a' w' => FrF 282 [] [(1, .slice ra sn sc), (3, .pointer (some ⟨gl, 0, none⟩)), (7, .bool true), (8, .pointer (some ⟨gh, 0, none⟩)), (9, .slice (some ⟨gr, 0, none⟩) l.sn l.sn), (11, .slice (some ⟨gs, 0, none⟩) l.sn l.sn), (12, .int .i64 l.sn)] a' ∧ Hid (WyB w w' l gl gh ga (reachS l.aisles l.doors) gr (reachS l.aisles (l.doors ++ [d])) gs)) (fun KL hKL => ?_) ?_
  · refine wp_seq_k (fun K hK => ?_);refine region_seq (l := [0]) (by kernel_rfl) ?_;refine seq_chain [(0, true)] [] rfl hF (fun C hC => ?_);clear hF;refine za rfl rfl rfl ?_;refine hC _ (fun a hF => ?_);clear hC C;refine seq_end ?_;replace hF := hF.k9 1 3 7 8 9 11 12 13 17 rfl rfl rfl rfl rfl rfl rfl rfl rfl;refine hK _ _ ?_;clear hK;(try clear K)
    refine wp_block ?_
    refine loop_fr (fun q a' w' => ∃ i : Nat, i + q = l.sn ∧ FrF 282 [] [(1, .slice ra sn sc), (3, .pointer (some ⟨gl, 0, none⟩)), (7, .bool true), (8, .pointer (some ⟨gh, 0, none⟩)), (9, .slice (some ⟨gr, 0, none⟩) l.sn l.sn), (11, .slice (some ⟨gs, 0, none⟩) l.sn l.sn), (12, .int .i64 l.sn), (13, .bool cc), (17, .int .i64 i)] a' ∧ Hid (WyB w w' l gl gh ga (reachS l.aisles l.doors) gr (reachS l.aisles (l.doors ++ [d])) gs)) l.sn ⟨0, by omega, hF, HY⟩ ?_
    clear hF HY
    rintro rk a wr ⟨i, hik, hF, HY⟩ KB hKB
    refine wp_seq_k (fun K hK => ?_);refine wp_seq_k (fun K hK => ?_)
    by_cases hlt : i < l.sn
    rotate_left
    · have hlti : ¬ (i : Int) < (l.sn : Nat) := by omega
      refine region_seq (l := [0, 1, 2]) (by kernel_rfl) ?_;refine seq_chain [(0, true), (1, true), (2, true)] [] rfl hF (fun C hC => ?_);clear hF;refine zm rfl rfl rfl ?_;refine zm rfl rfl rfl ?_;refine zs2 139 140 rfl rfl rfl ?_;refine hC _ (fun a hF => ?_);clear hC C;refine seq_end ?_;replace hF := hF.k10 1 3 7 8 9 11 12 13 17 141 rfl rfl rfl rfl rfl rfl rfl rfl rfl rfl;refine hK _ _ ?_;clear hK;(try clear K)
      refine cond_no hF rfl ?_
      refine wp_exit ?_
      exact hKL _ _ ⟨hF.sub ⟨rfl, rfl, rfl, rfl, rfl, rfl, rfl, trivial⟩, HY⟩
    have hlti : (i : Int) < (l.sn : Nat) := by omega
    refine region_seq (l := [0, 1, 2]) (by kernel_rfl) ?_;refine seq_chain [(0, true), (1, true), (2, true)] [] rfl hF (fun C hC => ?_);clear hF;refine zm rfl rfl rfl ?_;refine zm rfl rfl rfl ?_;refine zs2 139 140 rfl rfl rfl ?_;refine hC _ (fun a hF => ?_);clear hC C;refine seq_end ?_;replace hF := hF.k10 1 3 7 8 9 11 12 13 17 141 rfl rfl rfl rfl rfl rfl rfl rfl rfl rfl;refine hK _ _ ?_;clear hK;(try clear K)
    refine cond_yes hF rfl ?_
    refine wp_skip ?_
    refine hK _ _ ?_;clear hK;(try clear K);replace hF := hF.k9 1 3 7 8 9 11 12 13 17 rfl rfl rfl rfl rfl rfl rfl rfl rfl
    clear hKL
    refine seq_cut (fun a' w' => FrF 282 [] [(1, .slice ra sn sc), (3, .pointer (some ⟨gl, 0, none⟩)), (7, .bool true), (8, .pointer (some ⟨gh, 0, none⟩)), (9, .slice (some ⟨gr, 0, none⟩) l.sn l.sn), (11, .slice (some ⟨gs, 0, none⟩) l.sn l.sn), (12, .int .i64 l.sn), (13, .bool cc), (17, .int .i64 i)] a' ∧ Hid (WyB w w' l gl gh ga (reachS l.aisles l.doors) gr (reachS l.aisles (l.doors ++ [d])) gs)) (fun KC hKC => ?_) ?_
    rotate_left
    · clear hF HY
      rintro a w' ⟨hF, HY⟩
      have hws : IntKind.i64.wrap ((i : Int) + 1) = ((i + 1 : Nat) : Int) := wrap_succ (by omega)
      refine region_seq (l := [0, 1, 2]) (by kernel_rfl) ?_;refine seq_chain [(0, true), (1, true), (2, true)] [] rfl hF (fun C hC => ?_);clear hF;refine zm rfl rfl rfl ?_;refine zs1 142 rfl rfl ?_;refine za rfl rfl rfl ?_;refine hC _ (fun a hF => ?_);clear hC C;refine seq_end ?_;replace hF := hF.k9 1 3 7 8 9 11 12 13 17 rfl rfl rfl rfl rfl rfl rfl rfl rfl
      exact hKB (l.sn - (i + 1)) _ _ (by omega) ⟨i + 1, by omega, hF, HY⟩
    clear hKB hik
    refine wp_block ?_
    have hrl : i < (reachS l.aisles l.doors).length := by rw [reachS_len, HSN.out]; exact hlt
    have hrl2 : i < (reachS l.aisles (l.doors ++ [d])).length := by rw [reachS_len, HSN.out]; exact hlt
    have cr := HY.out.r.cell i hrl
    have cx := HY.out.s.cell i hrl2
    have hmo := HMO.out i hlt
    have HCI : Hid (cc = true → bx (reachS l.aisles l.doors) i = true → bx S i = true) := fun h hr => (HCC.out h).2 i hlt hr
    have HSI : Hid (cc = true → i < sn) := fun h => by have := (HCC.out h).1; omega
    obtain ⟨br, hbr⟩ : ∃ b, b = bx (reachS l.aisles l.doors) i := ⟨_, rfl⟩
    obtain ⟨bs', hbs⟩ : ∃ b, b = bx (reachS l.aisles (l.doors ++ [d])) i := ⟨_, rfl⟩
    rw [← hbr] at cr hmo HCI
    rw [← hbs] at cx hmo
    clear hbr hbs hrl hrl2
    cases br
    · clear hmo HCI HSI cx
      cases cc
      · refine wp_seq_k (fun K hK => ?_);refine region_seq (l := [0, 1, 2, 3, 4, 5, 6, 7, 8, 9, 10, 11, 12, 13, 14, 15, 16, 17, 18, 19, 20, 21, 22, 23, 24, 25, 26]) (by kernel_rfl) ?_;refine seq_chain [(0, true), (1, true), (2, true), (3, true), (4, true), (5, true), (6, true), (7, true), (8, true), (9, true), (10, true), (11, true), (12, true), (13, true), (14, true), (15, true), (16, true), (17, true), (18, true), (19, true), (20, true), (21, true), (22, true), (23, true), (24, true), (25, true), (26, true)] [] rfl hF (fun C hC => ?_);clear hF;refine zm rfl rfl rfl ?_;refine zm rfl rfl rfl ?_;refine zs2 144 145 rfl rfl rfl ?_;refine zs1 146 rfl rfl ?_;refine zm rfl rfl rfl ?_;refine zX rfl rfl rfl rfl ?_;refine zX rfl rfl rfl rfl ?_;refine zX rfl rfl rfl rfl ?_;refine zX rfl rfl rfl rfl ?_;refine zX rfl rfl rfl rfl ?_;refine zs2 148 153 rfl rfl rfl ?_;refine zm rfl rfl rfl ?_;refine zm rfl rfl rfl ?_;refine zm rfl rfl rfl ?_;refine zX rfl rfl rfl rfl ?_;refine zX rfl rfl rfl rfl ?_;refine zX rfl rfl rfl rfl ?_;refine zX rfl rfl rfl rfl ?_;refine zs2 157 161 rfl rfl rfl ?_;refine zm rfl rfl rfl ?_;refine zX rfl rfl rfl rfl ?_;refine zX rfl rfl rfl rfl ?_;refine zX rfl rfl rfl rfl ?_;refine zX rfl rfl rfl rfl ?_;refine zX rfl rfl rfl rfl ?_;refine zs2 163 168 rfl rfl rfl ?_;refine zs2 155 169 rfl rfl rfl ?_;refine hC _ (fun a hF => ?_);clear hC C;refine seq_end ?_;replace hF := hF.k10 1 3 7 8 9 11 12 13 17 170 rfl rfl rfl rfl rfl rfl rfl rfl rfl rfl;refine hK _ _ ?_;clear hK;(try clear K)
        refine cond_no hF rfl ?_
        refine wp_skip ?_
        exact hKC _ _ ⟨hF.sub ⟨rfl, rfl, rfl, rfl, rfl, rfl, rfl, rfl, rfl, trivial⟩, HY⟩
      · refine wp_seq_k (fun K hK => ?_);refine region_seq (l := [0, 1, 2, 3, 4, 5, 6, 7, 8, 9, 10, 11, 12, 13, 14, 15, 16, 17, 18, 19, 20, 21, 22, 23, 24, 25, 26]) (by kernel_rfl) ?_;refine seq_chain [(0, true), (1, true), (2, true), (3, true), (4, true), (5, true), (6, true), (7, true), (8, true), (9, true), (10, true), (11, true), (12, true), (13, true), (14, true), (15, true), (16, true), (17, true), (18, true), (19, true), (20, true), (21, true), (22, true), (23, true), (24, true), (25, true), (26, true)] [] rfl hF (fun C hC => ?_);clear hF;refine zm rfl rfl rfl ?_;refine zm rfl rfl rfl ?_;refine zs2 144 145 rfl rfl rfl ?_;refine zs1 146 rfl rfl ?_;refine zm rfl rfl rfl ?_;refine zX rfl rfl rfl rfl ?_;refine zX rfl rfl rfl rfl ?_;refine zX rfl rfl rfl rfl ?_;refine zX rfl rfl rfl rfl ?_;refine zX rfl rfl rfl rfl ?_;refine zs2 148 153 rfl rfl rfl ?_;refine zm rfl rfl rfl ?_;refine zm rfl rfl rfl ?_;refine zm rfl rfl rfl ?_;refine zm rfl rfl rfl ?_;refine zm rfl rfl rfl ?_;refine zs2 158 159 rfl rfl rfl ?_;refine zs1 160 rfl rfl ?_;refine zs2 157 161 rfl rfl rfl ?_;refine zm rfl rfl rfl ?_;refine zX rfl rfl rfl rfl ?_;refine zX rfl rfl rfl rfl ?_;refine zX rfl rfl rfl rfl ?_;refine zX rfl rfl rfl rfl ?_;refine zX rfl rfl rfl rfl ?_;refine zs2 163 168 rfl rfl rfl ?_;refine zs2 155 169 rfl rfl rfl ?_;refine hC _ (fun a hF => ?_);clear hC C;refine seq_end ?_;replace hF := hF.k10 1 3 7 8 9 11 12 13 17 170 rfl rfl rfl rfl rfl rfl rfl rfl rfl rfl;refine hK _ _ ?_;clear hK;(try clear K)
        refine cond_no hF rfl ?_
        refine wp_skip ?_
        exact hKC _ _ ⟨hF.sub ⟨rfl, rfl, rfl, rfl, rfl, rfl, rfl, rfl, rfl, trivial⟩, HY⟩
    obtain rfl : bs' = true := hmo rfl
    clear hmo
    cases cc
    · clear HCI HSI
      refine wp_seq_k (fun K hK => ?_);refine region_seq (l := [0, 1, 2, 3, 4, 5, 6, 7, 8, 9, 10, 11, 12, 13, 14, 15, 16, 17, 18, 19, 20, 21, 22, 23, 24, 25, 26]) (by kernel_rfl) ?_;refine seq_chain [(0, true), (1, true), (2, true), (3, true), (4, true), (5, true), (6, true), (7, true), (8, true), (9, true), (10, true), (11, true), (12, true), (13, true), (14, true), (15, true), (16, true), (17, true), (18, true), (19, true), (20, true), (21, true), (22, true), (23, true), (24, true), (25, true), (26, true)] [] rfl hF (fun C hC => ?_);clear hF;refine zm rfl rfl rfl ?_;refine zm rfl rfl rfl ?_;refine zs2 144 145 rfl rfl rfl ?_;refine zs1 146 rfl rfl ?_;refine zm rfl rfl rfl ?_;refine zm rfl rfl rfl ?_;refine zm rfl rfl rfl ?_;refine zs2 149 150 rfl rfl rfl ?_;refine zs1 151 rfl rfl ?_;refine zs1 152 rfl rfl ?_;refine zs2 148 153 rfl rfl rfl ?_;refine zm rfl rfl rfl ?_;refine zm rfl rfl rfl ?_;refine zm rfl rfl rfl ?_;refine zX rfl rfl rfl rfl ?_;refine zX rfl rfl rfl rfl ?_;refine zX rfl rfl rfl rfl ?_;refine zX rfl rfl rfl rfl ?_;refine zs2 157 161 rfl rfl rfl ?_;refine zm rfl rfl rfl ?_;refine zX rfl rfl rfl rfl ?_;refine zX rfl rfl rfl rfl ?_;refine zX rfl rfl rfl rfl ?_;refine zX rfl rfl rfl rfl ?_;refine zX rfl rfl rfl rfl ?_;refine zs2 163 168 rfl rfl rfl ?_;refine zs2 155 169 rfl rfl rfl ?_;refine hC _ (fun a hF => ?_);clear hC C;refine seq_end ?_;replace hF := hF.k10 1 3 7 8 9 11 12 13 17 170 rfl rfl rfl rfl rfl rfl rfl rfl rfl rfl;refine hK _ _ ?_;clear hK;(try clear K)
      refine cond_no hF rfl ?_
      refine wp_skip ?_
      exact hKC _ _ ⟨hF.sub ⟨rfl, rfl, rfl, rfl, rfl, rfl, rfl, rfl, rfl, trivial⟩, HY⟩
    have his := HSI.out rfl
    have hisi : (i : Int) < (sn : Nat) := by omega
    obtain ⟨sb, so, hra, cs⟩ := bool_at (HS.out.below HY.out.below) i his
    subst hra
    rw [HCI.out rfl rfl] at cs
    clear HCI HSI
    refine wp_seq_k (fun K hK => ?_);refine region_seq (l := [0, 1, 2, 3, 4, 5, 6, 7, 8, 9, 10, 11, 12, 13, 14, 15, 16, 17, 18, 19, 20, 21, 22, 23, 24, 25, 26]) (by kernel_rfl) ?_;refine seq_chain [(0, true), (1, true), (2, true), (3, true), (4, true), (5, true), (6, true), (7, true), (8, true), (9, true), (10, true), (11, true), (12, true), (13, true), (14, true), (15, true), (16, true), (17, true), (18, true), (19, true), (20, true), (21, true), (22, true), (23, true), (24, true), (25, true), (26, true)] [] rfl hF (fun C hC => ?_);clear hF;refine zm rfl rfl rfl ?_;refine zm rfl rfl rfl ?_;refine zs2 144 145 rfl rfl rfl ?_;refine zs1 146 rfl rfl ?_;refine zm rfl rfl rfl ?_;refine zm rfl rfl rfl ?_;refine zm rfl rfl rfl ?_;refine zs2 149 150 rfl rfl rfl ?_;refine zs1 151 rfl rfl ?_;refine zs1 152 rfl rfl ?_;refine zs2 148 153 rfl rfl rfl ?_;refine zm rfl rfl rfl ?_;refine zm rfl rfl rfl ?_;refine zm rfl rfl rfl ?_;refine zm rfl rfl rfl ?_;refine zm rfl rfl rfl ?_;refine zs2 158 159 rfl rfl rfl ?_;refine zs1 160 rfl rfl ?_;refine zs2 157 161 rfl rfl rfl ?_;refine zm rfl rfl rfl ?_;refine zm rfl rfl rfl ?_;refine zm rfl rfl rfl ?_;refine zs2 164 165 rfl rfl rfl ?_;refine zs1 166 rfl rfl ?_;refine zs1 167 rfl rfl ?_;refine zs2 163 168 rfl rfl rfl ?_;refine zs2 155 169 rfl rfl rfl ?_;refine hC _ (fun a hF => ?_);clear hC C;refine seq_end ?_;replace hF := hF.k10 1 3 7 8 9 11 12 13 17 170 rfl rfl rfl rfl rfl rfl rfl rfl rfl rfl;refine hK _ _ ?_;clear hK;(try clear K)
    refine cond_no hF rfl ?_
    refine wp_skip ?_
    exact hKC _ _ ⟨hF.sub ⟨rfl, rfl, rfl, rfl, rfl, rfl, rfl, rfl, rfl, trivial⟩, HY⟩
  clear hF HY HCC HMO
  rintro a w12 ⟨hF, HY⟩
  replace hF := hF.k5 3 7 8 9 12 rfl rfl rfl rfl rfl
  obtain ⟨c0, c1, c2, c3⟩ := HY.out.hall.cells
  refine wp_seq_k (fun K hK => ?_);refine region_seq (l := [0, 1, 2, 3, 4, 5, 6]) (by kernel_rfl) ?_;refine seq_chain [(0, true)] [1, 2, 3, 4, 5, 6] rfl hF (fun C hC => ?_);clear hF;refine zs1 8 rfl rfl ?_;refine hC _ (fun a hF => ?_);clear hC C;refine seq_one ?_;refine op_call [_] rfl rfl hF rfl (by kernel_rfl) ⟨rfl, trivial⟩ (fun K hK => ?_);clear hF
  refine (build_any w12 (wayH l ga) (HHI.out w12 HY.out.below HY.out.one) HSM.out (fun l' hl' => by
    rw [List.mem_singleton.1 hl']
    exact HG.out.2.1)).mono ?_
  rintro e w13 ⟨⟨la, n, c, fa, m, dd, rfl, hp, hpf⟩, hb4⟩
  have HY2 := Lib.hid (HY.out.down hb4)
  have HP := Lib.hid hp
  have hn4 : (buildS (wayH l ga)).1.length ≤ 4000 := build_len
  clear c0 c1 c2 c3 HY hb4 hp
  obtain rfl : (buildS (wayH l ga)).1.length = n := HP.out.1
  have hnf : (buildS (wayH l ga)).2.length = m := hpf.1
  clear hpf
  refine hK _ _ (fun a hF => ?_);clear hK K;refine seq_chain [(2, true), (3, true), (4, true), (5, true), (6, true)] [] rfl hF (fun C hC => ?_);clear hF;refine zm rfl rfl rfl ?_;refine zs1 171 rfl rfl ?_;refine zs1 171 rfl rfl ?_;refine za rfl rfl rfl ?_;refine za rfl rfl rfl ?_;refine hC _ (fun a hF => ?_);clear hC C;refine seq_end ?_;replace hF := hF.k6 3 7 9 12 18 19 rfl rfl rfl rfl rfl rfl;refine hK _ _ ?_;clear hK;(try clear K)
  by_cases hf : faultsS (wayH l ga) = []
  rotate_left
  · have h2 : 0 < m := by
      rw [← hnf]
      unfold buildS
      rw [if_neg hf]
      exact List.length_pos_iff.2 hf
    have h2i : (0 : Int) < (m : Nat) := by omega
    clear HP hn4 hnf hf
    refine wp_seq_k (fun K hK => ?_);refine wp_seq_k (fun K hK => ?_);refine region_seq (l := [0, 1, 2]) (by kernel_rfl) ?_;refine seq_chain [(0, true), (1, true), (2, true)] [] rfl hF (fun C hC => ?_);clear hF;refine zm rfl rfl rfl ?_;refine zs1 176 rfl rfl ?_;refine zs1 177 rfl rfl ?_;refine hC _ (fun a hF => ?_);clear hC C;refine seq_end ?_;replace hF := hF.k6 3 7 9 12 18 178 rfl rfl rfl rfl rfl rfl;refine hK _ _ ?_;clear hK;(try clear K)
    refine cond_yes hF rfl ?_
    refine wp_seq_k (fun K hK => ?_);refine region_seq (l := [0, 1]) (by kernel_rfl) ?_;refine seq_chain [(0, true), (1, true)] [] rfl hF (fun C hC => ?_);clear hF;refine zm rfl rfl rfl ?_;refine za rfl rfl rfl ?_;refine hC _ (fun a hF => ?_);clear hC C;refine seq_end ?_;replace hF := hF.k1 6 rfl;refine hK _ _ ?_;clear hK;(try clear K);refine wp_ret ?_;(try simp only [then_ret, block_ret, goto_ret]);refine ret_fr (fn := Try.f5) (rs := [.tmp 6]) rfl [_] hF ⟨rfl, trivial⟩ ?_
    exact ⟨rfl, HY2.out.below⟩
  have h2 : m = 0 := by
    rw [← hnf]
    unfold buildS
    rw [if_pos hf]
    rfl
  have h1 : (buildS (wayH l ga)).1 = placesS (wayH l ga) := by unfold buildS; rw [if_pos hf]
  have HW := Lib.hid (ways_place hf (l := l) rfl)
  rw [← h1] at HW
  clear h1 hnf hf
  subst h2
  generalize (buildS (wayH l ga)).1 = Q at *
  refine wp_seq_k (fun K hK => ?_);refine wp_seq_k (fun K hK => ?_);refine region_seq (l := [0, 1, 2]) (by kernel_rfl) ?_;refine seq_chain [(0, true), (1, true), (2, true)] [] rfl hF (fun C hC => ?_);clear hF;refine zm rfl rfl rfl ?_;refine zs1 176 rfl rfl ?_;refine zs1 177 rfl rfl ?_;refine hC _ (fun a hF => ?_);clear hC C;refine seq_end ?_;replace hF := hF.k6 3 7 9 12 18 178 rfl rfl rfl rfl rfl rfl;refine hK _ _ ?_;clear hK;(try clear K)
  refine cond_no hF rfl ?_
  refine wp_skip ?_
  refine hK _ _ ?_;clear hK;(try clear K);refine wp_seq_k (fun KA hKA => ?_);refine wp_seq_k (fun K hK => ?_);refine region_seq (l := [0]) (by kernel_rfl) ?_;refine seq_chain [(0, true)] [] rfl hF (fun C hC => ?_);clear hF;refine za rfl rfl rfl ?_;refine hC _ (fun a hF => ?_);clear hC C;refine seq_end ?_;replace hF := hF.k6 3 7 9 12 18 20 rfl rfl rfl rfl rfl rfl;refine hK _ _ ?_;clear hK;(try clear K)
  refine wp_block ?_
  refine loop_fr (fun q a' w' => ∃ i : Nat, i + q = Q.length ∧ FrF 282 [] [(3, .pointer (some ⟨gl, 0, none⟩)), (7, .bool true), (9, .slice (some ⟨gr, 0, none⟩) l.sn l.sn), (12, .int .i64 l.sn), (18, .slice la Q.length c), (20, .int .i64 i)] a' ∧ Hid (WyB w w' l gl gh ga (reachS l.aisles l.doors) gr (reachS l.aisles (l.doors ++ [d])) gs ∧ Below w13.heap.size w13 w')) Q.length ⟨0, by omega, hF, HY2.out, Below.refl _ _⟩ ?_
  clear hF HY2
  rintro rk a wr ⟨i, hik, hF, HY⟩ KB hKB
  refine wp_seq_k (fun K hK => ?_);refine wp_seq_k (fun K hK => ?_)
  by_cases hlt : i < Q.length
  rotate_left
  · have hlti : ¬ (i : Int) < (Q.length : Nat) := by omega
    refine region_seq (l := [0, 1, 2, 3]) (by kernel_rfl) ?_;refine seq_chain [(0, true), (1, true), (2, true), (3, true)] [] rfl hF (fun C hC => ?_);clear hF;refine zm rfl rfl rfl ?_;refine zm rfl rfl rfl ?_;refine zs1 181 rfl rfl ?_;refine zs2 180 182 rfl rfl rfl ?_;refine hC _ (fun a hF => ?_);clear hC C;refine seq_end ?_;replace hF := hF.k7 3 7 9 12 18 20 183 rfl rfl rfl rfl rfl rfl rfl;refine hK _ _ ?_;clear hK;(try clear K)
    refine cond_no hF rfl ?_
    refine wp_exit ?_
    refine hKA _ _ ?_;clear hKA;(try clear KA);refine wp_seq_k (fun K hK => ?_);refine region_seq (l := [0, 1]) (by kernel_rfl) ?_;refine seq_chain [(0, true), (1, true)] [] rfl hF (fun C hC => ?_);clear hF;refine zm rfl rfl rfl ?_;refine za rfl rfl rfl ?_;refine hC _ (fun a hF => ?_);clear hC C;refine seq_end ?_;replace hF := hF.k1 6 rfl;refine hK _ _ ?_;clear hK;(try clear K);refine wp_ret ?_;(try simp only [then_ret, block_ret, goto_ret]);refine ret_fr (fn := Try.f5) (rs := [.tmp 6]) rfl [_] hF ⟨rfl, trivial⟩ ?_
    exact ⟨rfl, HY.out.1.below⟩
  have hlti : (i : Int) < (Q.length : Nat) := by omega
  refine region_seq (l := [0, 1, 2, 3]) (by kernel_rfl) ?_;refine seq_chain [(0, true), (1, true), (2, true), (3, true)] [] rfl hF (fun C hC => ?_);clear hF;refine zm rfl rfl rfl ?_;refine zm rfl rfl rfl ?_;refine zs1 181 rfl rfl ?_;refine zs2 180 182 rfl rfl rfl ?_;refine hC _ (fun a hF => ?_);clear hC C;refine seq_end ?_;replace hF := hF.k7 3 7 9 12 18 20 183 rfl rfl rfl rfl rfl rfl rfl;refine hK _ _ ?_;clear hK;(try clear K)
  refine cond_yes hF rfl ?_
  refine wp_skip ?_
  refine hK _ _ ?_;clear hK;(try clear K);replace hF := hF.k6 3 7 9 12 18 20 rfl rfl rfl rfl rfl rfl
  clear hKA
  obtain ⟨bb, oo, hla, d0, d1, d2, d3, d4, d5, d6, d7, d8⟩ := place_at (HP.out.below HY.out.2) i hlt hlt
  subst hla
  have HWP := Lib.hid (HW.out Q[i] (List.getElem_mem hlt))
  obtain ⟨p, hp⟩ : ∃ p, p = Q[i] := ⟨_, rfl⟩
  rw [← hp] at d0 d1 d2 d3 d4 d5 d6 d7 d8 HWP
  clear hp
  refine seq_cut (fun a' w' => FrF 282 [] [(3, .pointer (some ⟨gl, 0, none⟩)), (7, .bool true), (9, .slice (some ⟨gr, 0, none⟩) l.sn l.sn), (12, .int .i64 l.sn), (18, .slice (some ⟨bb, oo, none⟩) Q.length c), (20, .int .i64 i)] a' ∧ Hid (WyB w w' l gl gh ga (reachS l.aisles l.doors) gr (reachS l.aisles (l.doors ++ [d])) gs ∧ Below w13.heap.size w13 w')) (fun KC hKC => ?_) ?_
  rotate_left
  · clear hF HY d0 d1 d2 d3 d4 d5 d6 d7 d8
    rintro a w' ⟨hF, HY⟩
    have hws : IntKind.i64.wrap ((i : Int) + 1) = ((i + 1 : Nat) : Int) := wrap_succ (by omega)
    refine region_seq (l := [0, 1, 2]) (by kernel_rfl) ?_;refine seq_chain [(0, true), (1, true), (2, true)] [] rfl hF (fun C hC => ?_);clear hF;refine zm rfl rfl rfl ?_;refine zs1 184 rfl rfl ?_;refine za rfl rfl rfl ?_;refine hC _ (fun a hF => ?_);clear hC C;refine seq_end ?_;replace hF := hF.k6 3 7 9 12 18 20 rfl rfl rfl rfl rfl rfl
    exact hKB (Q.length - (i + 1)) _ _ (by omega) ⟨i + 1, by omega, hF, HY⟩
  clear hKB hik
  refine wp_block ?_
  refine wp_seq_k (fun K hK => ?_);refine region_seq (l := [0, 1, 2, 3, 4, 5]) (by kernel_rfl) ?_;refine seq_chain [(0, true), (1, true), (2, true), (3, true)] [4, 5] rfl hF (fun C hC => ?_);clear hF;refine zm rfl rfl rfl ?_;refine zm rfl rfl rfl ?_;refine zs2 186 187 rfl rfl rfl ?_;refine zs1 188 rfl rfl ?_;refine hC _ (fun a hF => ?_);clear hC C;refine seq_one ?_;refine ze0 rfl rfl rfl hF rfl ?_;clear hF;refine fun a hF => ?_
  have hs0 : (wr.alloc (.cells #[.int .i64 0, .int .i64 0, .int .i64 0, .int .i64 0, .int .i64 0, .int .i64 0, .int .i64 0, .int .i64 0, .int .i64 0] 35)).heap[wr.heap.size]? = some (.cells #[.int .i64 0, .int .i64 0, .int .i64 0, .int .i64 0, .int .i64 0, .int .i64 0, .int .i64 0, .int .i64 0, .int .i64 0] 35 (0, 0)) := World.alloc_heap_new _ _
  have hb1 := Joins.below_alloc1 wr (.cells #[.int .i64 0, .int .i64 0, .int .i64 0, .int .i64 0, .int .i64 0, .int .i64 0, .int .i64 0, .int .i64 0, .int .i64 0] 35)
  generalize wr.alloc (.cells #[.int .i64 0, .int .i64 0, .int .i64 0, .int .i64 0, .int .i64 0, .int .i64 0, .int .i64 0, .int .i64 0, .int .i64 0] 35) = wa at *
  obtain ⟨gp, hgv⟩ : ∃ g, g = wr.heap.size := ⟨_, rfl⟩
  have hgw : wr.heap.size ≤ gp := Nat.le_of_eq hgv.symm
  rw [← hgv] at hF hs0
  clear hgv
  have hSV := run_storeVar_row (P := Try.prog) wa gp 35 35 #[.int .i64 0, .int .i64 0, .int .i64 0, .int .i64 0, .int .i64 0, .int .i64 0, .int .i64 0, .int .i64 0, .int .i64 0] #[.int .i64 p.kind, .int .i64 p.level, .int .i64 p.block, .int .i64 p.row, .int .i64 p.seat, .int .i64 p.x, .int .i64 p.y, .int .i64 p.view, .int .i64 p.wth] hs0 (by kernel_rfl) rfl (by simp [Value.oneCell'])
  have hs2 := setRow_heap wa gp #[.int .i64 0, .int .i64 0, .int .i64 0, .int .i64 0, .int .i64 0, .int .i64 0, .int .i64 0, .int .i64 0, .int .i64 0] #[.int .i64 p.kind, .int .i64 p.level, .int .i64 p.block, .int .i64 p.row, .int .i64 p.seat, .int .i64 p.x, .int .i64 p.y, .int .i64 p.view, .int .i64 p.wth] 35 (0, 0) hs0
  have hb2 : Below wr.heap.size wr (wa.setRow gp #[.int .i64 p.kind, .int .i64 p.level, .int .i64 p.block, .int .i64 p.row, .int .i64 p.seat, .int .i64 p.x, .int .i64 p.y, .int .i64 p.view, .int .i64 p.wth]) := below_setRow hb1 hgw #[.int .i64 p.kind, .int .i64 p.level, .int .i64 p.block, .int .i64 p.row, .int .i64 p.seat, .int .i64 p.x, .int .i64 p.y, .int .i64 p.view, .int .i64 p.wth]
  have HTW := Lib.hid (And.intro hb2 (And.intro hs2 hgw))
  clear hs0 hb1 hs2 hb2 hgw
  refine seq_one ?_;refine op_storev rfl rfl hF rfl rfl rfl rfl hSV ?_;clear hF;refine fun a hF => ?_
  clear hSV
  refine hK _ _ ?_;clear hK;(try clear K)
  generalize wa.setRow gp #[.int .i64 p.kind, .int .i64 p.level, .int .i64 p.block, .int .i64 p.row, .int .i64 p.seat, .int .i64 p.x, .int .i64 p.y, .int .i64 p.view, .int .i64 p.wth] = w15 at *
  have HZ : Hid (WyB w w15 l gl gh ga (reachS l.aisles l.doors) gr (reachS l.aisles (l.doors ++ [d])) gs ∧ Below w13.heap.size w13 w15 ∧ PlcIn w15 gp p) := ⟨HY.out.1.down HTW.out.1, HY.out.2.trans (HTW.out.1.mono HY.out.2.size), HTW.out.2.1⟩
  clear HTW HY d0 d1 d2 d3 d4 d5 d6 d7 d8
  refine wp_seq_k (fun K hK => ?_);refine region_seq (l := [0]) (by kernel_rfl) ?_;refine seq_chain [(0, true)] [] rfl hF (fun C hC => ?_);clear hF;refine za rfl rfl rfl ?_;refine hC _ (fun a hF => ?_);clear hC C;refine seq_end ?_;replace hF := hF.k8 3 7 9 12 18 20 21 22 rfl rfl rfl rfl rfl rfl rfl rfl;refine hK _ _ ?_;clear hK;(try clear K)
  by_cases hrow : p.row < 0
  · obtain ⟨j, hj, hpb, han⟩ := HWP.out.ar hrow
    have HAN := Lib.hid han
    have HPB : Hid (p.block - (l.bn : Int) = (j : Int)) := by
      show _ = _
      rw [hpb, (HG.out.1.blocks.1 : l.blocks.length = l.bn)]
      omega
    have hja : j < l.an := by have := HG.out.1.areas.1; omega
    clear han hpb HWP
    refine seq_cut (fun a' w' => FrF 282 [] [(3, .pointer (some ⟨gl, 0, none⟩)), (7, .bool true), (9, .slice (some ⟨gr, 0, none⟩) l.sn l.sn), (12, .int .i64 l.sn), (18, .slice (some ⟨bb, oo, none⟩) Q.length c), (20, .int .i64 i), (21, .pointer (some ⟨gp, 0, none⟩)), (22, .bool (areaN (reachS l.aisles l.doors) l.aisles l.areas[j].box l.sn))] a' ∧ Hid (WyB w w' l gl gh ga (reachS l.aisles l.doors) gr (reachS l.aisles (l.doors ++ [d])) gs ∧ Below w13.heap.size w13 w' ∧ PlcIn w' gp p)) (fun KD hKD => ?_) ?_
    rotate_left
    · clear hF HZ
      rintro a w' ⟨hF, HZ⟩
      rw [← HSN.out, HAN.out] at hF
      rw [HSN.out] at hF
      refine wp_seq_k (fun K hK => ?_);refine region_seq (l := [0, 1]) (by kernel_rfl) ?_;refine seq_chain [(0, true), (1, true)] [] rfl hF (fun C hC => ?_);clear hF;refine zm rfl rfl rfl ?_;refine zs1 279 rfl rfl ?_;refine hC _ (fun a hF => ?_);clear hC C;refine seq_end ?_;replace hF := hF.k7 3 7 9 12 18 20 280 rfl rfl rfl rfl rfl rfl rfl;refine hK _ _ ?_;clear hK;(try clear K)
      refine cond_no hF rfl ?_
      refine wp_skip ?_
      exact hKC _ _ ⟨hF.sub ⟨rfl, rfl, rfl, rfl, rfl, rfl, trivial⟩, And.intro HZ.out.1 HZ.out.2.1⟩
    clear hKC HAN
    refine wp_seq_k (fun K hK => ?_);refine region_seq (l := [0]) (by kernel_rfl) ?_;refine seq_chain [(0, true)] [] rfl hF (fun C hC => ?_);clear hF;refine za rfl rfl rfl ?_;refine hC _ (fun a hF => ?_);clear hC C;refine seq_end ?_;replace hF := hF.k9 3 7 9 12 18 20 21 22 23 rfl rfl rfl rfl rfl rfl rfl rfl rfl;refine hK _ _ ?_;clear hK;(try clear K)
    refine wp_block ?_
    refine loop_fr (fun q a' w' => ∃ k : Nat, k + q = l.sn ∧ FrF 282 [] [(3, .pointer (some ⟨gl, 0, none⟩)), (7, .bool true), (9, .slice (some ⟨gr, 0, none⟩) l.sn l.sn), (12, .int .i64 l.sn), (18, .slice (some ⟨bb, oo, none⟩) Q.length c), (20, .int .i64 i), (21, .pointer (some ⟨gp, 0, none⟩)), (22, .bool (areaN (reachS l.aisles l.doors) l.aisles l.areas[j].box k)), (23, .int .i64 k)] a' ∧ Hid (WyB w w' l gl gh ga (reachS l.aisles l.doors) gr (reachS l.aisles (l.doors ++ [d])) gs ∧ Below w13.heap.size w13 w' ∧ PlcIn w' gp p)) l.sn ⟨0, by omega, hF, HZ⟩ ?_
    clear hF HZ
    rintro rj a wr ⟨k, hkk, hF, HZ⟩ KE hKE
    refine wp_seq_k (fun K hK => ?_);refine wp_seq_k (fun K hK => ?_)
    by_cases hlk : k < l.sn
    rotate_left
    · have hlki : ¬ (k : Int) < (l.sn : Nat) := by omega
      refine region_seq (l := [0, 1, 2]) (by kernel_rfl) ?_;refine seq_chain [(0, true), (1, true), (2, true)] [] rfl hF (fun C hC => ?_);clear hF;refine zm rfl rfl rfl ?_;refine zm rfl rfl rfl ?_;refine zs2 190 191 rfl rfl rfl ?_;refine hC _ (fun a hF => ?_);clear hC C;refine seq_end ?_;replace hF := hF.k10 3 7 9 12 18 20 21 22 23 192 rfl rfl rfl rfl rfl rfl rfl rfl rfl rfl;refine hK _ _ ?_;clear hK;(try clear K)
      refine cond_no hF rfl ?_
      refine wp_exit ?_
      have hie : k = l.sn := by omega
      rw [hie] at hF
      exact hKD _ _ ⟨hF.sub ⟨rfl, rfl, rfl, rfl, rfl, rfl, rfl, rfl, trivial⟩, HZ⟩
    have hlki : (k : Int) < (l.sn : Nat) := by omega
    refine region_seq (l := [0, 1, 2]) (by kernel_rfl) ?_;refine seq_chain [(0, true), (1, true), (2, true)] [] rfl hF (fun C hC => ?_);clear hF;refine zm rfl rfl rfl ?_;refine zm rfl rfl rfl ?_;refine zs2 190 191 rfl rfl rfl ?_;refine hC _ (fun a hF => ?_);clear hC C;refine seq_end ?_;replace hF := hF.k10 3 7 9 12 18 20 21 22 23 192 rfl rfl rfl rfl rfl rfl rfl rfl rfl rfl;refine hK _ _ ?_;clear hK;(try clear K)
    refine cond_yes hF rfl ?_
    refine wp_skip ?_
    refine hK _ _ ?_;clear hK;(try clear K);replace hF := hF.k9 3 7 9 12 18 20 21 22 23 rfl rfl rfl rfl rfl rfl rfl rfl rfl
    clear hKD
    have hkl : k < l.aisles.length := by rw [HSN.out]; exact hlk
    have HNX := Lib.hid (areaN_next (reachS l.aisles l.doors) l.aisles l.areas[j].box hkl)
    refine seq_cut (fun a' w' => FrF 282 [] [(3, .pointer (some ⟨gl, 0, none⟩)), (7, .bool true), (9, .slice (some ⟨gr, 0, none⟩) l.sn l.sn), (12, .int .i64 l.sn), (18, .slice (some ⟨bb, oo, none⟩) Q.length c), (20, .int .i64 i), (21, .pointer (some ⟨gp, 0, none⟩)), (22, .bool (areaN (reachS l.aisles l.doors) l.aisles l.areas[j].box (k + 1))), (23, .int .i64 k)] a' ∧ Hid (WyB w w' l gl gh ga (reachS l.aisles l.doors) gr (reachS l.aisles (l.doors ++ [d])) gs ∧ Below w13.heap.size w13 w' ∧ PlcIn w' gp p)) (fun KF hKF => ?_) ?_
    rotate_left
    · clear hF HZ
      rintro a w' ⟨hF, HZ⟩
      have hws : IntKind.i64.wrap ((k : Int) + 1) = ((k + 1 : Nat) : Int) := wrap_succ (by omega)
      refine region_seq (l := [0, 1, 2]) (by kernel_rfl) ?_;refine seq_chain [(0, true), (1, true), (2, true)] [] rfl hF (fun C hC => ?_);clear hF;refine zm rfl rfl rfl ?_;refine zs1 193 rfl rfl ?_;refine za rfl rfl rfl ?_;refine hC _ (fun a hF => ?_);clear hC C;refine seq_end ?_;replace hF := hF.k9 3 7 9 12 18 20 21 22 23 rfl rfl rfl rfl rfl rfl rfl rfl rfl
      exact hKE (l.sn - (k + 1)) _ _ (by omega) ⟨k + 1, by omega, hF, HZ⟩
    clear hKE hkk
    obtain ⟨_, _, p2, p3, _, _, _, _, _⟩ := HZ.out.2.2.cells
    refine wp_block ?_
    refine wp_seq_k (fun K hK => ?_);refine wp_seq_k (fun K hK => ?_);refine region_seq (l := [0, 1, 2]) (by kernel_rfl) ?_;refine seq_chain [(0, true), (1, true), (2, true)] [] rfl hF (fun C hC => ?_);clear hF;refine zs1 21 rfl rfl ?_;refine zs1 195 rfl rfl ?_;refine zs1 196 rfl rfl ?_;refine hC _ (fun a hF => ?_);clear hC C;refine seq_end ?_;replace hF := hF.k10 3 7 9 12 18 20 21 22 23 197 rfl rfl rfl rfl rfl rfl rfl rfl rfl rfl;refine hK _ _ ?_;clear hK;(try clear K)
    refine cond_yes hF rfl ?_
    refine wp_seq_k (fun K hK => ?_)
    have hrl : k < (reachS l.aisles l.doors).length := by rw [reachS_len]; exact hkl
    have cr := HZ.out.1.r.cell k hrl
    clear hrl
    obtain ⟨b, hb⟩ : ∃ b, b = areaN (reachS l.aisles l.doors) l.aisles l.areas[j].box k := ⟨_, rfl⟩
    rw [← hb] at hF HNX
    clear hb
    have HZd : Hid (WyB w wr.drew l gl gh ga (reachS l.aisles l.doors) gr (reachS l.aisles (l.doors ++ [d])) gs ∧ Below w13.heap.size w13 wr.drew ∧ PlcIn wr.drew gp p) := ⟨HZ.out.1.drew, below_d HZ.out.2.1, HZ.out.2.2.down (below_d (Below.refl _ _))⟩
    cases b
    rotate_left
    · refine region_any (by kernel_rfl) ?_;refine any_chain (fuel := 0) [(0, false), (1, false), (2, false), (3, false), (4, false), (5, true), (6, false), (7, false), (8, true), (9, false), (10, true), (11, false), (12, true), (13, false), (14, false), (15, false), (16, false), (17, true), (18, false), (19, true), (20, false), (21, false), (22, true), (23, true), (24, false), (25, false), (26, false)] [] rfl (by kernel_rfl) (by kernel_rfl) hF (fun _ _ d _ _ h => by cases d <;> exact h) (fun C hC => ?_);clear hF;refine zm rfl rfl rfl ?_;refine zm rfl rfl rfl ?_;refine zX rfl rfl rfl rfl ?_;refine zX rfl rfl rfl rfl ?_;refine zX rfl rfl rfl rfl ?_;refine zX rfl rfl rfl rfl ?_;refine zX rfl rfl rfl rfl ?_;refine zX rfl rfl rfl rfl ?_;refine zX rfl rfl rfl rfl ?_;refine zX rfl rfl rfl rfl ?_;refine zX rfl rfl rfl rfl ?_;refine zX rfl rfl rfl rfl ?_;refine zX rfl rfl rfl rfl ?_;refine zX rfl rfl rfl rfl ?_;refine zX rfl rfl rfl rfl ?_;refine zX rfl rfl rfl rfl ?_;refine zX rfl rfl rfl rfl ?_;refine zX rfl rfl rfl rfl ?_;refine zX rfl rfl rfl rfl ?_;refine zX rfl rfl rfl rfl ?_;refine zX rfl rfl rfl rfl ?_;refine zX rfl rfl rfl rfl ?_;refine zX rfl rfl rfl rfl ?_;refine zX rfl rfl rfl rfl ?_;refine zX rfl rfl rfl rfl ?_;refine zy2 199 222 rfl rfl rfl ?_;refine za rfl rfl rfl ?_;refine hC _ (fun a hF => ?_);clear hC C;refine any_end (by kernel_rfl) ?_;replace hF := hF.k9 3 7 9 12 18 20 21 22 23 rfl rfl rfl rfl rfl rfl rfl rfl rfl;refine hK _ _ ?_;clear hK;(try clear K)
      refine wp_exit ?_
      refine hKF _ _ ⟨?_, HZd⟩
      rw [HNX.out]
      exact hF
    obtain ⟨br, hbr⟩ : ∃ b, b = bx (reachS l.aisles l.doors) k := ⟨_, rfl⟩
    rw [← hbr] at cr HNX
    clear hbr
    cases br
    · refine region_any (by kernel_rfl) ?_;refine any_chain (fuel := 0) [(0, false), (1, false), (2, false), (3, false), (4, false), (5, true), (6, false), (7, false), (8, true), (9, false), (10, true), (11, false), (12, true), (13, false), (14, false), (15, false), (16, false), (17, true), (18, false), (19, true), (20, false), (21, false), (22, true), (23, true), (24, false), (25, false), (26, false)] [] rfl (by kernel_rfl) (by kernel_rfl) hF (fun _ _ d _ _ h => by cases d <;> exact h) (fun C hC => ?_);clear hF;refine zm rfl rfl rfl ?_;refine zm rfl rfl rfl ?_;refine zm rfl rfl rfl ?_;refine zm rfl rfl rfl ?_;refine zy2 200 201 rfl rfl rfl ?_;refine zs1 202 rfl rfl ?_;refine zm rfl rfl rfl ?_;refine zX rfl rfl rfl rfl ?_;refine zX rfl rfl rfl rfl ?_;refine zX rfl rfl rfl rfl ?_;refine zX rfl rfl rfl rfl ?_;refine zX rfl rfl rfl rfl ?_;refine zX rfl rfl rfl rfl ?_;refine zX rfl rfl rfl rfl ?_;refine zX rfl rfl rfl rfl ?_;refine zX rfl rfl rfl rfl ?_;refine zX rfl rfl rfl rfl ?_;refine zX rfl rfl rfl rfl ?_;refine zX rfl rfl rfl rfl ?_;refine zX rfl rfl rfl rfl ?_;refine zX rfl rfl rfl rfl ?_;refine zX rfl rfl rfl rfl ?_;refine zX rfl rfl rfl rfl ?_;refine zX rfl rfl rfl rfl ?_;refine zy2 204 221 rfl rfl rfl ?_;refine zy2 199 222 rfl rfl rfl ?_;refine za rfl rfl rfl ?_;refine hC _ (fun a hF => ?_);clear hC C;refine any_end (by kernel_rfl) ?_;replace hF := hF.k9 3 7 9 12 18 20 21 22 23 rfl rfl rfl rfl rfl rfl rfl rfl rfl;refine hK _ _ ?_;clear hK;(try clear K)
      refine wp_exit ?_
      refine hKF _ _ ⟨?_, HZd⟩
      rw [HNX.out]
      exact hF
    obtain ⟨l0, l1, l2, l3, l4, l5, l6, l7⟩ := HZ.out.1.lev.cells
    obtain ⟨ba, oa, hla, e0, e1, e2, e3⟩ := box_at (HG.out.1.below HZ.out.1.below).aisles k hlk hkl
    obtain ⟨bq, oq, hlq, g0, g1, g2, g3, g4, g5, g6⟩ := area_at (HG.out.1.below HZ.out.1.below).areas j hja hj
    rw [hla] at l4
    rw [hlq] at l3
    have hjai : (j : Int) < (l.an : Nat) := by omega
    have hsb : IntKind.i64.wrap (p.block - (l.bn : Int)) = (j : Int) := by
      rw [HPB.out, wrap_in (by omega) (by have := HG.out.1.an; omega)]
    generalize l.aisles[k] = ak at *
    generalize l.areas[j].box = ab at *
    refine region_any (by kernel_rfl) ?_;refine any_chain (fuel := 4) [(0, false), (1, false), (2, false), (3, false), (4, false), (5, true), (6, false), (7, false), (8, true), (9, false), (10, true), (11, false), (12, true), (13, false), (14, false), (15, false), (16, false), (17, true), (18, false), (19, true), (20, false), (21, false), (22, true)] [23] rfl (by kernel_rfl) (by kernel_rfl) hF (fun _ _ d _ _ h => by cases d <;> exact h) (fun C hC => ?_);clear hF;refine zm rfl rfl rfl ?_;refine zm rfl rfl rfl ?_;refine zm rfl rfl rfl ?_;refine zm rfl rfl rfl ?_;refine zy2 200 201 rfl rfl rfl ?_;refine zs1 202 rfl rfl ?_;refine zm rfl rfl rfl ?_;refine zy1 3 rfl rfl ?_;refine zs1 205 rfl rfl ?_;refine zy1 21 rfl rfl ?_;refine zs1 207 rfl rfl ?_;refine zy1 3 rfl rfl ?_;refine zs1 209 rfl rfl ?_;refine zy1 210 rfl rfl ?_;refine zy2 208 211 rfl rfl rfl ?_;refine zy2 206 212 rfl rfl rfl ?_;refine zy1 213 rfl rfl ?_;refine zs1 214 rfl rfl ?_;refine zy1 3 rfl rfl ?_;refine zs1 216 rfl rfl ?_;refine zm rfl rfl rfl ?_;refine zy2 217 218 rfl rfl rfl ?_;refine zs1 219 rfl rfl ?_;refine hC _ (fun a hF => ?_);clear hC C;refine any_one (n := 23) (fuel := 3) (by kernel_rfl) ?_;refine op_call [_, _] rfl rfl hF rfl (by kernel_rfl) ⟨rfl, rfl, trivial⟩ (fun K hK => ?_);clear hF
    refine (rmeet_any _ ab ak).mono ?_
    rintro e w5 ⟨rfl, hb5⟩
    have HZ5 : Hid (WyB w w5 l gl gh ga (reachS l.aisles l.doors) gr (reachS l.aisles (l.doors ++ [d])) gs ∧ Below w13.heap.size w13 w5 ∧ PlcIn w5 gp p) := ⟨HZd.out.1.down hb5, HZd.out.2.1.trans (hb5.mono HZd.out.2.1.size), HZd.out.2.2.down hb5⟩
    clear HZ HZd hb5 l0 l1 l2 l3 l4 l5 l6 l7 e0 e1 e2 e3 g0 g1 g2 g3 g4 g5 g6 cr p2 p3 hsb
    refine hK _ _ (fun a hF => ?_);clear hK K;refine any_chain (fuel := 0) [(24, false), (25, false), (26, false)] [] rfl (by kernel_rfl) (by kernel_rfl) hF (fun _ _ d _ _ h => by cases d <;> exact h) (fun C hC => ?_);clear hF;refine zy2 204 221 rfl rfl rfl ?_;refine zy2 199 222 rfl rfl rfl ?_;refine za rfl rfl rfl ?_;refine hC _ (fun a hF => ?_);clear hC C;refine any_end (by kernel_rfl) ?_;replace hF := hF.k9 3 7 9 12 18 20 21 22 23 rfl rfl rfl rfl rfl rfl rfl rfl rfl;refine hK _ _ ?_;clear hK;(try clear K)
    refine wp_exit ?_
    refine hKF _ _ ⟨?_, HZ5⟩
    rw [HNX.out]
    exact hF
  obtain ⟨ib, hib, kr, hkr, hpb, hpr, hok, hrn⟩ := HWP.out.ro (by omega)
  have HRN := Lib.hid hrn
  have HOK := Lib.hid hok
  clear hrn hok HWP
  have hibl : ib < l.bn := by have := HG.out.1.blocks.1; omega
  have hibi : (ib : Int) < (l.bn : Nat) := by omega
  have hbm : l.blocks[ib] ∈ l.blocks := List.getElem_mem hib
  have HBI : Hid (∀ w', Below w.heap.size w w' → l.blocks[ib].In w') := fun w' hb => (HG.out.1.below hb).blk _ hbm
  have hkrl : kr < l.blocks[ib].rn := by
    have := (HBI.out _ HZ.out.1.below).1.1
    omega
  have hkri : (kr : Int) < (l.blocks[ib].rn : Nat) := by omega
  have HRI : Hid (l.blocks[ib].rows[kr].step ≤ 9223372036854775807) := ((HBI.out _ HZ.out.1.below).2.2 _ (List.getElem_mem hkr)).step
  have hkn : ¬ (kr : Int) < 0 := by omega
  refine seq_cut (fun a' w' => FrF 282 [] [(3, .pointer (some ⟨gl, 0, none⟩)), (7, .bool true), (9, .slice (some ⟨gr, 0, none⟩) l.sn l.sn), (12, .int .i64 l.sn), (18, .slice (some ⟨bb, oo, none⟩) Q.length c), (20, .int .i64 i), (21, .pointer (some ⟨gp, 0, none⟩)), (22, .bool (rowN (reachS l.aisles l.doors) l.aisles l.blocks[ib].rows[kr] l.sn))] a' ∧ Hid (WyB w w' l gl gh ga (reachS l.aisles l.doors) gr (reachS l.aisles (l.doors ++ [d])) gs ∧ Below w13.heap.size w13 w' ∧ PlcIn w' gp p)) (fun KD hKD => ?_) ?_
  rotate_left
  · clear hF HZ
    rintro a w' ⟨hF, HZ⟩
    rw [← HSN.out, HRN.out] at hF
    rw [HSN.out] at hF
    refine wp_seq_k (fun K hK => ?_);refine region_seq (l := [0, 1]) (by kernel_rfl) ?_;refine seq_chain [(0, true), (1, true)] [] rfl hF (fun C hC => ?_);clear hF;refine zm rfl rfl rfl ?_;refine zs1 279 rfl rfl ?_;refine hC _ (fun a hF => ?_);clear hC C;refine seq_end ?_;replace hF := hF.k7 3 7 9 12 18 20 280 rfl rfl rfl rfl rfl rfl rfl;refine hK _ _ ?_;clear hK;(try clear K)
    refine cond_no hF rfl ?_
    refine wp_skip ?_
    exact hKC _ _ ⟨hF.sub ⟨rfl, rfl, rfl, rfl, rfl, rfl, trivial⟩, And.intro HZ.out.1 HZ.out.2.1⟩
  clear hKC HRN
  refine wp_seq_k (fun K hK => ?_);refine region_seq (l := [0]) (by kernel_rfl) ?_;refine seq_chain [(0, true)] [] rfl hF (fun C hC => ?_);clear hF;refine za rfl rfl rfl ?_;refine hC _ (fun a hF => ?_);clear hC C;refine seq_end ?_;replace hF := hF.k9 3 7 9 12 18 20 21 22 23 rfl rfl rfl rfl rfl rfl rfl rfl rfl;refine hK _ _ ?_;clear hK;(try clear K)
  refine wp_block ?_
  refine loop_fr (fun q a' w' => ∃ k : Nat, k + q = l.sn ∧ FrF 282 [] [(3, .pointer (some ⟨gl, 0, none⟩)), (7, .bool true), (9, .slice (some ⟨gr, 0, none⟩) l.sn l.sn), (12, .int .i64 l.sn), (18, .slice (some ⟨bb, oo, none⟩) Q.length c), (20, .int .i64 i), (21, .pointer (some ⟨gp, 0, none⟩)), (22, .bool (rowN (reachS l.aisles l.doors) l.aisles l.blocks[ib].rows[kr] k)), (23, .int .i64 k)] a' ∧ Hid (WyB w w' l gl gh ga (reachS l.aisles l.doors) gr (reachS l.aisles (l.doors ++ [d])) gs ∧ Below w13.heap.size w13 w' ∧ PlcIn w' gp p)) l.sn ⟨0, by omega, hF, HZ⟩ ?_
  clear hF HZ
  rintro rj a wr ⟨k, hkk, hF, HZ⟩ KE hKE
  refine wp_seq_k (fun K hK => ?_);refine wp_seq_k (fun K hK => ?_)
  by_cases hlk : k < l.sn
  rotate_left
  · have hlki : ¬ (k : Int) < (l.sn : Nat) := by omega
    refine region_seq (l := [0, 1, 2]) (by kernel_rfl) ?_;refine seq_chain [(0, true), (1, true), (2, true)] [] rfl hF (fun C hC => ?_);clear hF;refine zm rfl rfl rfl ?_;refine zm rfl rfl rfl ?_;refine zs2 190 191 rfl rfl rfl ?_;refine hC _ (fun a hF => ?_);clear hC C;refine seq_end ?_;replace hF := hF.k10 3 7 9 12 18 20 21 22 23 192 rfl rfl rfl rfl rfl rfl rfl rfl rfl rfl;refine hK _ _ ?_;clear hK;(try clear K)
    refine cond_no hF rfl ?_
    refine wp_exit ?_
    have hie : k = l.sn := by omega
    rw [hie] at hF
    exact hKD _ _ ⟨hF.sub ⟨rfl, rfl, rfl, rfl, rfl, rfl, rfl, rfl, trivial⟩, HZ⟩
  have hlki : (k : Int) < (l.sn : Nat) := by omega
  refine region_seq (l := [0, 1, 2]) (by kernel_rfl) ?_;refine seq_chain [(0, true), (1, true), (2, true)] [] rfl hF (fun C hC => ?_);clear hF;refine zm rfl rfl rfl ?_;refine zm rfl rfl rfl ?_;refine zs2 190 191 rfl rfl rfl ?_;refine hC _ (fun a hF => ?_);clear hC C;refine seq_end ?_;replace hF := hF.k10 3 7 9 12 18 20 21 22 23 192 rfl rfl rfl rfl rfl rfl rfl rfl rfl rfl;refine hK _ _ ?_;clear hK;(try clear K)
  refine cond_yes hF rfl ?_
  refine wp_skip ?_
  refine hK _ _ ?_;clear hK;(try clear K);replace hF := hF.k9 3 7 9 12 18 20 21 22 23 rfl rfl rfl rfl rfl rfl rfl rfl rfl
  clear hKD
  have hkl : k < l.aisles.length := by rw [HSN.out]; exact hlk
  have HNX := Lib.hid (rowN_next (reachS l.aisles l.doors) l.aisles l.blocks[ib].rows[kr] hkl)
  refine seq_cut (fun a' w' => FrF 282 [] [(3, .pointer (some ⟨gl, 0, none⟩)), (7, .bool true), (9, .slice (some ⟨gr, 0, none⟩) l.sn l.sn), (12, .int .i64 l.sn), (18, .slice (some ⟨bb, oo, none⟩) Q.length c), (20, .int .i64 i), (21, .pointer (some ⟨gp, 0, none⟩)), (22, .bool (rowN (reachS l.aisles l.doors) l.aisles l.blocks[ib].rows[kr] (k + 1))), (23, .int .i64 k)] a' ∧ Hid (WyB w w' l gl gh ga (reachS l.aisles l.doors) gr (reachS l.aisles (l.doors ++ [d])) gs ∧ Below w13.heap.size w13 w' ∧ PlcIn w' gp p)) (fun KF hKF => ?_) ?_
  rotate_left
  · clear hF HZ
    rintro a w' ⟨hF, HZ⟩
    have hws : IntKind.i64.wrap ((k : Int) + 1) = ((k + 1 : Nat) : Int) := wrap_succ (by omega)
    refine region_seq (l := [0, 1, 2]) (by kernel_rfl) ?_;refine seq_chain [(0, true), (1, true), (2, true)] [] rfl hF (fun C hC => ?_);clear hF;refine zm rfl rfl rfl ?_;refine zs1 193 rfl rfl ?_;refine za rfl rfl rfl ?_;refine hC _ (fun a hF => ?_);clear hC C;refine seq_end ?_;replace hF := hF.k9 3 7 9 12 18 20 21 22 23 rfl rfl rfl rfl rfl rfl rfl rfl rfl
    exact hKE (l.sn - (k + 1)) _ _ (by omega) ⟨k + 1, by omega, hF, HZ⟩
  clear hKE hkk
  obtain ⟨_, _, p2, p3, _, _, _, _, _⟩ := HZ.out.2.2.cells
  rw [hpr] at p3
  refine wp_block ?_
  refine wp_seq_k (fun K hK => ?_);refine wp_seq_k (fun K hK => ?_);refine region_seq (l := [0, 1, 2]) (by kernel_rfl) ?_;refine seq_chain [(0, true), (1, true), (2, true)] [] rfl hF (fun C hC => ?_);clear hF;refine zs1 21 rfl rfl ?_;refine zs1 195 rfl rfl ?_;refine zs1 196 rfl rfl ?_;refine hC _ (fun a hF => ?_);clear hC C;refine seq_end ?_;replace hF := hF.k10 3 7 9 12 18 20 21 22 23 197 rfl rfl rfl rfl rfl rfl rfl rfl rfl rfl;refine hK _ _ ?_;clear hK;(try clear K)
  refine cond_no hF rfl ?_
  refine wp_skip ?_
  refine hK _ _ ?_;clear hK;(try clear K)
  clear p2 p3
  have HZd : Hid (WyB w wr.drew l gl gh ga (reachS l.aisles l.doors) gr (reachS l.aisles (l.doors ++ [d])) gs ∧ Below w13.heap.size w13 wr.drew ∧ PlcIn wr.drew gp p) := ⟨HZ.out.1.drew, below_d HZ.out.2.1, HZ.out.2.2.down (below_d (Below.refl _ _))⟩
  clear HZ
  obtain ⟨l0, l1, l2, l3, l4, l5, l6, l7⟩ := HZd.out.1.lev.cells
  obtain ⟨_, _, p2, p3, _, _, _, _, _⟩ := HZd.out.2.2.cells
  rw [hpr] at p3
  rw [hpb] at p2
  obtain ⟨bB, oB, hlb, b0, b1, b2⟩ := blk_at (HG.out.1.below HZd.out.1.below).blocks ib hibl hib
  obtain ⟨bR, oR, hlr, r0, r1, r2, r3, r4, r5, r6, r7⟩ := row_at (HBI.out _ HZd.out.1.below).1 kr hkrl hkr
  rw [hlb] at l2
  rw [hlr] at b1
  clear HBI hlb hlr l0 l1 l3 l4 l5 l6 l7 b0 b2
  generalize l.blocks[ib].rows[kr] = r at *
  have HST : Hid (∀ w', Below wr.drew.heap.size wr.drew w' → True ∧ w'.cell? ⟨gl, 2, none⟩ = some (.slice (some ⟨bB, oB, none⟩) l.bn l.bc) ∧ w'.cell? ⟨gp, 2, none⟩ = some (.int .i64 (ib : Int)) ∧ w'.cell? ⟨gp, 3, none⟩ = some (.int .i64 (kr : Int)) ∧ w'.cell? ⟨bB, oB + ib * 3 + 1, none⟩ = some (.slice (some ⟨bR, oR, none⟩) l.blocks[ib].rn l.blocks[ib].rc) ∧ w'.cell? ⟨bR, oR + kr * 8, none⟩ = some (.string (bs r.name)) ∧ w'.cell? ⟨bR, oR + kr * 8 + 1, none⟩ = some (.int .i64 r.x) ∧ w'.cell? ⟨bR, oR + kr * 8 + 2, none⟩ = some (.int .i64 r.y) ∧ w'.cell? ⟨bR, oR + kr * 8 + 3, none⟩ = some (.int .i64 r.fr) ∧ w'.cell? ⟨bR, oR + kr * 8 + 4, none⟩ = some (.int .i64 r.to) ∧ w'.cell? ⟨bR, oR + kr * 8 + 5, none⟩ = some (.int .i64 r.step) ∧ w'.cell? ⟨bR, oR + kr * 8 + 6, none⟩ = some (.slice r.ma r.mn r.mc) ∧ w'.cell? ⟨bR, oR + kr * 8 + 7, none⟩ = some (.int .i64 r.at')) := fun w' hb => ⟨trivial, Below.cell_of hb l2, Below.cell_of hb p2, Below.cell_of hb p3, Below.cell_of hb b1, Below.cell_of hb r0, Below.cell_of hb r1, Below.cell_of hb r2, Below.cell_of hb r3, Below.cell_of hb r4, Below.cell_of hb r5, Below.cell_of hb r6, Below.cell_of hb r7⟩
  clear l2 p2 p3 b1 r0 r1 r2 r3 r4 r5 r6 r7
  refine wp_seq_k (fun K hK => ?_);refine region_any (by kernel_rfl) ?_;generalize wr.drew = wd at *;refine held_chain (fuel := 2) (fun w' => True ∧ w'.cell? ⟨gl, 2, none⟩ = some (.slice (some ⟨bB, oB, none⟩) l.bn l.bc) ∧ w'.cell? ⟨gp, 2, none⟩ = some (.int .i64 (ib : Int)) ∧ w'.cell? ⟨gp, 3, none⟩ = some (.int .i64 (kr : Int)) ∧ w'.cell? ⟨bB, oB + ib * 3 + 1, none⟩ = some (.slice (some ⟨bR, oR, none⟩) l.blocks[ib].rn l.blocks[ib].rc) ∧ w'.cell? ⟨bR, oR + kr * 8, none⟩ = some (.string (bs r.name)) ∧ w'.cell? ⟨bR, oR + kr * 8 + 1, none⟩ = some (.int .i64 r.x) ∧ w'.cell? ⟨bR, oR + kr * 8 + 2, none⟩ = some (.int .i64 r.y) ∧ w'.cell? ⟨bR, oR + kr * 8 + 3, none⟩ = some (.int .i64 r.fr) ∧ w'.cell? ⟨bR, oR + kr * 8 + 4, none⟩ = some (.int .i64 r.to) ∧ w'.cell? ⟨bR, oR + kr * 8 + 5, none⟩ = some (.int .i64 r.step) ∧ w'.cell? ⟨bR, oR + kr * 8 + 6, none⟩ = some (.slice r.ma r.mn r.mc) ∧ w'.cell? ⟨bR, oR + kr * 8 + 7, none⟩ = some (.int .i64 r.at')) [0, 1, 2, 3, 4, 5, 6, 7, 8, 9, 10] rfl (by kernel_rfl) (by kernel_rfl) hF (fun _ _ d _ _ h => by cases d <;> exact h) (HST.out _ (Below.refl _ _)) (fun C hC => ?_);clear hF;refine ChainH.step (v := ?_) rfl rfl rfl rfl ?_ ?_
  rotate_left
  · intro a hF w' hw
    have s3 := hF.slot 3 _ rfl
    clear hw
    clear hF
    go_simp <;> with_reducible rfl
  refine ChainH.step (v := ?_) rfl rfl rfl rfl ?_ ?_
  rotate_left
  · intro a hF w' hw
    have s224 := hF.slot 224 _ rfl
    obtain ⟨_, k2, m2, m3, n1, r0, r1, r2, r3, r4, r5, r6, r7⟩ := hw
    clear hF
    go_simp <;> with_reducible rfl
  refine ChainH.step (v := ?_) rfl rfl rfl rfl ?_ ?_
  rotate_left
  · intro a hF w' hw
    have s21 := hF.slot 21 _ rfl
    clear hw
    clear hF
    go_simp <;> with_reducible rfl
  refine ChainH.step (v := ?_) rfl rfl rfl rfl ?_ ?_
  rotate_left
  · intro a hF w' hw
    have s226 := hF.slot 226 _ rfl
    obtain ⟨_, k2, m2, m3, n1, r0, r1, r2, r3, r4, r5, r6, r7⟩ := hw
    clear hF
    go_simp <;> with_reducible rfl
  refine ChainH.step (v := ?_) rfl rfl rfl rfl ?_ ?_
  rotate_left
  · intro a hF w' hw
    have s225 := hF.slot 225 _ rfl
    have s227 := hF.slot 227 _ rfl
    clear hw
    clear hF
    go_simp <;> with_reducible rfl
  refine ChainH.step (v := ?_) rfl rfl rfl rfl ?_ ?_
  rotate_left
  · intro a hF w' hw
    have s228 := hF.slot 228 _ rfl
    clear hw
    clear hF
    go_simp <;> with_reducible rfl
  refine ChainH.step (v := ?_) rfl rfl rfl rfl ?_ ?_
  rotate_left
  · intro a hF w' hw
    have s229 := hF.slot 229 _ rfl
    obtain ⟨_, k2, m2, m3, n1, r0, r1, r2, r3, r4, r5, r6, r7⟩ := hw
    clear hF
    go_simp <;> with_reducible rfl
  refine ChainH.step (v := ?_) rfl rfl rfl rfl ?_ ?_
  rotate_left
  · intro a hF w' hw
    have s21 := hF.slot 21 _ rfl
    clear hw
    clear hF
    go_simp <;> with_reducible rfl
  refine ChainH.step (v := ?_) rfl rfl rfl rfl ?_ ?_
  rotate_left
  · intro a hF w' hw
    have s231 := hF.slot 231 _ rfl
    obtain ⟨_, k2, m2, m3, n1, r0, r1, r2, r3, r4, r5, r6, r7⟩ := hw
    clear hF
    go_simp <;> with_reducible rfl
  refine ChainH.step (v := ?_) rfl rfl rfl rfl ?_ ?_
  rotate_left
  · intro a hF w' hw
    have s230 := hF.slot 230 _ rfl
    have s232 := hF.slot 232 _ rfl
    clear hw
    clear hF
    go_simp <;> with_reducible rfl
  refine ChainH.step (v := ?_) rfl rfl rfl rfl ?_ ?_
  rotate_left
  · intro a hF w' hw
    have s233 := hF.slot 233 _ rfl
    obtain ⟨_, k2, m2, m3, n1, r0, r1, r2, r3, r4, r5, r6, r7⟩ := hw
    clear hF
    go_simp <;> with_reducible rfl
  refine hC _ (fun a hF => ?_);clear hC C;refine held_one (n := 11) (fuel := 1) (by kernel_rfl) ?_;refine ze0 rfl rfl rfl hF rfl ?_;clear hF;refine fun a hF => ⟨?_, ?_⟩
  -- the row's own variable
  · intro _
    exact HST.out _ (Joins.below_alloc1 _ _)
  have hx := World.alloc_heap_new wd (.cells #[.string ⟨#[]⟩, .int .i64 0, .int .i64 0, .int .i64 0, .int .i64 0, .int .i64 0, .slice none 0 0, .int .i64 0] 54)
  have hbx := Joins.below_alloc1 wd (.cells #[.string ⟨#[]⟩, .int .i64 0, .int .i64 0, .int .i64 0, .int .i64 0, .int .i64 0, .slice none 0 0, .int .i64 0] 54)
  generalize wd.alloc (.cells #[.string ⟨#[]⟩, .int .i64 0, .int .i64 0, .int .i64 0, .int .i64 0, .int .i64 0, .slice none 0 0, .int .i64 0] 54) = w2 at *
  obtain ⟨gq, hgq0⟩ : ∃ g, g = wd.heap.size := ⟨_, rfl⟩
  have hgq : wd.heap.size ≤ gq := Nat.le_of_eq hgq0.symm
  rw [← hgq0] at hF hx
  clear hgq0
  have hSV := run_storeVar_row (P := Try.prog) w2 gq 54 54 #[.string ⟨#[]⟩, .int .i64 0, .int .i64 0, .int .i64 0, .int .i64 0, .int .i64 0, .slice none 0 0, .int .i64 0] #[.string (bs r.name), .int .i64 r.x, .int .i64 r.y, .int .i64 r.fr, .int .i64 r.to, .int .i64 r.step, .slice r.ma r.mn r.mc, .int .i64 r.at'] hx (by kernel_rfl) rfl (by simp [Value.oneCell'])
  have hrow2 := setRow_heap w2 gq #[.string ⟨#[]⟩, .int .i64 0, .int .i64 0, .int .i64 0, .int .i64 0, .int .i64 0, .slice none 0 0, .int .i64 0] #[.string (bs r.name), .int .i64 r.x, .int .i64 r.y, .int .i64 r.fr, .int .i64 r.to, .int .i64 r.step, .slice r.ma r.mn r.mc, .int .i64 r.at'] 54 (0, 0) hx
  have hbs : Below wd.heap.size wd (w2.setRow gq #[.string (bs r.name), .int .i64 r.x, .int .i64 r.y, .int .i64 r.fr, .int .i64 r.to, .int .i64 r.step, .slice r.ma r.mn r.mc, .int .i64 r.at']) := below_setRow hbx hgq #[.string (bs r.name), .int .i64 r.x, .int .i64 r.y, .int .i64 r.fr, .int .i64 r.to, .int .i64 r.step, .slice r.ma r.mn r.mc, .int .i64 r.at']
  have HFIN := Lib.hid (And.intro hrow2 (And.intro hbs hgq))
  clear hx hbx hrow2 hbs hgq
  refine held_one (n := 12) (fuel := 0) (by kernel_rfl) ?_;refine op_storev rfl rfl hF rfl rfl rfl rfl hSV ?_;clear hF;refine fun a hF => ⟨?_, ?_⟩
  · intro _
    exact HST.out _ HFIN.out.2.1
  clear hSV
  generalize w2.setRow gq #[.string (bs r.name), .int .i64 r.x, .int .i64 r.y, .int .i64 r.fr, .int .i64 r.to, .int .i64 r.step, .slice r.ma r.mn r.mc, .int .i64 r.at'] = w3 at *
  refine held_end (by kernel_rfl) ?_;replace hF := hF.k10 3 7 9 12 18 20 21 22 23 24 rfl rfl rfl rfl rfl rfl rfl rfl rfl rfl;refine hK _ _ ?_;clear hK;(try clear K)
  have HR3 : Hid (RowIn w3 gq r) := HFIN.out.1
  have HZ3 : Hid (WyB w w3 l gl gh ga (reachS l.aisles l.doors) gr (reachS l.aisles (l.doors ++ [d])) gs ∧ Below w13.heap.size w13 w3 ∧ PlcIn w3 gp p) := ⟨HZd.out.1.down HFIN.out.2.1, HZd.out.2.1.trans (HFIN.out.2.1.mono HZd.out.2.1.size), HZd.out.2.2.down HFIN.out.2.1⟩
  clear HFIN HZd HST
  have hrl : k < (reachS l.aisles l.doors).length := by rw [reachS_len]; exact hkl
  have cr := HZ3.out.1.r.cell k hrl
  clear hrl
  obtain ⟨b, hb⟩ : ∃ b, b = rowN (reachS l.aisles l.doors) l.aisles r k := ⟨_, rfl⟩
  rw [← hb] at hF HNX
  clear hb
  have HZe : Hid (WyB w w3.drew l gl gh ga (reachS l.aisles l.doors) gr (reachS l.aisles (l.doors ++ [d])) gs ∧ Below w13.heap.size w13 w3.drew ∧ PlcIn w3.drew gp p) := ⟨HZ3.out.1.drew, below_d HZ3.out.2.1, HZ3.out.2.2.down (below_d (Below.refl _ _))⟩
  cases b
  rotate_left
  · refine region_any (by kernel_rfl) ?_;refine any_chain (fuel := 0) [(0, false), (1, false), (2, false), (3, false), (4, false), (5, true), (6, false), (7, false), (8, true), (9, false), (10, true), (11, false), (12, false), (13, true), (14, false), (15, true), (16, false), (17, false), (18, true), (19, true), (20, false), (21, false), (22, true), (23, false), (24, true), (25, false), (26, true), (27, false), (28, false), (29, false), (30, true), (31, false), (32, false), (33, false), (34, true), (35, false), (36, true), (37, false), (38, false), (39, true), (40, true), (41, false), (42, false), (43, false), (44, false)] [] rfl (by kernel_rfl) (by kernel_rfl) hF (fun _ _ d _ _ h => by cases d <;> exact h) (fun C hC => ?_);clear hF;refine zm rfl rfl rfl ?_;refine zm rfl rfl rfl ?_;refine zX rfl rfl rfl rfl ?_;refine zX rfl rfl rfl rfl ?_;refine zX rfl rfl rfl rfl ?_;refine zX rfl rfl rfl rfl ?_;refine zX rfl rfl rfl rfl ?_;refine zX rfl rfl rfl rfl ?_;refine zX rfl rfl rfl rfl ?_;refine zX rfl rfl rfl rfl ?_;refine zX rfl rfl rfl rfl ?_;refine zX rfl rfl rfl rfl ?_;refine zX rfl rfl rfl rfl ?_;refine zX rfl rfl rfl rfl ?_;refine zX rfl rfl rfl rfl ?_;refine zX rfl rfl rfl rfl ?_;refine zX rfl rfl rfl rfl ?_;refine zX rfl rfl rfl rfl ?_;refine zX rfl rfl rfl rfl ?_;refine zX rfl rfl rfl rfl ?_;refine zX rfl rfl rfl rfl ?_;refine zX rfl rfl rfl rfl ?_;refine zX rfl rfl rfl rfl ?_;refine zX rfl rfl rfl rfl ?_;refine zX rfl rfl rfl rfl ?_;refine zX rfl rfl rfl rfl ?_;refine zX rfl rfl rfl rfl ?_;refine zX rfl rfl rfl rfl ?_;refine zX rfl rfl rfl rfl ?_;refine zX rfl rfl rfl rfl ?_;refine zX rfl rfl rfl rfl ?_;refine zX rfl rfl rfl rfl ?_;refine zX rfl rfl rfl rfl ?_;refine zX rfl rfl rfl rfl ?_;refine zX rfl rfl rfl rfl ?_;refine zX rfl rfl rfl rfl ?_;refine zX rfl rfl rfl rfl ?_;refine zX rfl rfl rfl rfl ?_;refine zX rfl rfl rfl rfl ?_;refine zX rfl rfl rfl rfl ?_;refine zX rfl rfl rfl rfl ?_;refine zX rfl rfl rfl rfl ?_;refine zX rfl rfl rfl rfl ?_;refine zy2 236 277 rfl rfl rfl ?_;refine za rfl rfl rfl ?_;refine hC _ (fun a hF => ?_);clear hC C;refine any_end (by kernel_rfl) ?_;replace hF := hF.k9 3 7 9 12 18 20 21 22 23 rfl rfl rfl rfl rfl rfl rfl rfl rfl
    refine hKF _ _ ⟨?_, HZe⟩
    rw [HNX.out]
    exact hF
  obtain ⟨br, hbr⟩ : ∃ b, b = bx (reachS l.aisles l.doors) k := ⟨_, rfl⟩
  rw [← hbr] at cr HNX
  clear hbr
  cases br
  · refine region_any (by kernel_rfl) ?_;refine any_chain (fuel := 0) [(0, false), (1, false), (2, false), (3, false), (4, false), (5, true), (6, false), (7, false), (8, true), (9, false), (10, true), (11, false), (12, false), (13, true), (14, false), (15, true), (16, false), (17, false), (18, true), (19, true), (20, false), (21, false), (22, true), (23, false), (24, true), (25, false), (26, true), (27, false), (28, false), (29, false), (30, true), (31, false), (32, false), (33, false), (34, true), (35, false), (36, true), (37, false), (38, false), (39, true), (40, true), (41, false), (42, false), (43, false), (44, false)] [] rfl (by kernel_rfl) (by kernel_rfl) hF (fun _ _ d _ _ h => by cases d <;> exact h) (fun C hC => ?_);clear hF;refine zm rfl rfl rfl ?_;refine zm rfl rfl rfl ?_;refine zm rfl rfl rfl ?_;refine zm rfl rfl rfl ?_;refine zy2 237 238 rfl rfl rfl ?_;refine zs1 239 rfl rfl ?_;refine zm rfl rfl rfl ?_;refine zX rfl rfl rfl rfl ?_;refine zX rfl rfl rfl rfl ?_;refine zX rfl rfl rfl rfl ?_;refine zX rfl rfl rfl rfl ?_;refine zX rfl rfl rfl rfl ?_;refine zX rfl rfl rfl rfl ?_;refine zX rfl rfl rfl rfl ?_;refine zX rfl rfl rfl rfl ?_;refine zX rfl rfl rfl rfl ?_;refine zX rfl rfl rfl rfl ?_;refine zX rfl rfl rfl rfl ?_;refine zX rfl rfl rfl rfl ?_;refine zX rfl rfl rfl rfl ?_;refine zX rfl rfl rfl rfl ?_;refine zX rfl rfl rfl rfl ?_;refine zX rfl rfl rfl rfl ?_;refine zX rfl rfl rfl rfl ?_;refine zX rfl rfl rfl rfl ?_;refine zX rfl rfl rfl rfl ?_;refine zX rfl rfl rfl rfl ?_;refine zX rfl rfl rfl rfl ?_;refine zX rfl rfl rfl rfl ?_;refine zX rfl rfl rfl rfl ?_;refine zX rfl rfl rfl rfl ?_;refine zX rfl rfl rfl rfl ?_;refine zX rfl rfl rfl rfl ?_;refine zX rfl rfl rfl rfl ?_;refine zX rfl rfl rfl rfl ?_;refine zX rfl rfl rfl rfl ?_;refine zX rfl rfl rfl rfl ?_;refine zX rfl rfl rfl rfl ?_;refine zX rfl rfl rfl rfl ?_;refine zX rfl rfl rfl rfl ?_;refine zX rfl rfl rfl rfl ?_;refine zX rfl rfl rfl rfl ?_;refine zy2 241 276 rfl rfl rfl ?_;refine zy2 236 277 rfl rfl rfl ?_;refine za rfl rfl rfl ?_;refine hC _ (fun a hF => ?_);clear hC C;refine any_end (by kernel_rfl) ?_;replace hF := hF.k9 3 7 9 12 18 20 21 22 23 rfl rfl rfl rfl rfl rfl rfl rfl rfl
    refine hKF _ _ ⟨?_, HZe⟩
    rw [HNX.out]
    exact hF
  obtain ⟨l0, l1, l2, l3, l4, l5, l6, l7⟩ := HZ3.out.1.lev.cells
  obtain ⟨ba, oa, hla, e0, e1, e2, e3⟩ := box_at (HG.out.1.below HZ3.out.1.below).aisles k hlk hkl
  rw [hla] at l4
  have HBX : Hid (∀ w', Below w.heap.size w w' → ∃ b o, l.sa = some ⟨b, o, none⟩ ∧ w'.cell? ⟨b, o + k * 4, none⟩ = some (.int .i64 l.aisles[k].x) ∧ w'.cell? ⟨b, o + k * 4 + 1, none⟩ = some (.int .i64 l.aisles[k].y) ∧ w'.cell? ⟨b, o + k * 4 + 2, none⟩ = some (.int .i64 l.aisles[k].x2) ∧ w'.cell? ⟨b, o + k * 4 + 3, none⟩ = some (.int .i64 l.aisles[k].y2)) := fun w' hb => box_at (HG.out.1.below hb).aisles k hlk hkl
  generalize l.aisles[k] = ak at *
  obtain ⟨_, q1, q2, q3, q4, q5, _, _⟩ := HR3.out.cells
  have hcx := HOK.out.cx
  have hst := HOK.out.st
  have hst2 := HRI.out
  have hcf := HOK.out.fr
  have hct := HOK.out.to
  have hcft := HOK.out.ft
  have hw1 : IntKind.i64.wrap (r.x - r.step) = leftS r := wrap_in (by omega) (by omega)
  have hw2 : IntKind.i64.wrap (r.to - r.fr) = r.to - r.fr := wrap_in (by omega) (by omega)
  have hw3 : IntKind.i64.wrap (r.to - r.fr + 1) = r.to - r.fr + 1 := wrap_in (by omega) (by omega)
  obtain ⟨pr, hpr2⟩ : ∃ x, IntKind.i64.wrap ((r.to - r.fr + 1) * r.step) = x := ⟨_, rfl⟩
  have hw4 : IntKind.i64.wrap (r.x + pr) = rightS r := by rw [← hpr2, wrap_right]; rfl
  clear hcx hst hst2 hcf hct hcft
  refine region_any (by kernel_rfl) ?_;refine any_chain (fuel := 26) [(0, false), (1, false), (2, false), (3, false), (4, false), (5, true), (6, false), (7, false), (8, true), (9, false), (10, true), (11, false), (12, false), (13, true), (14, false), (15, true), (16, false), (17, false), (18, true)] [19, 40] rfl (by kernel_rfl) (by kernel_rfl) hF (fun _ _ d _ _ h => by cases d <;> exact h) (fun C hC => ?_);clear hF;refine zm rfl rfl rfl ?_;refine zm rfl rfl rfl ?_;refine zm rfl rfl rfl ?_;refine zm rfl rfl rfl ?_;refine zy2 237 238 rfl rfl rfl ?_;refine zs1 239 rfl rfl ?_;refine zm rfl rfl rfl ?_;refine zy1 24 rfl rfl ?_;refine zs1 242 rfl rfl ?_;refine zy1 24 rfl rfl ?_;refine zs1 244 rfl rfl ?_;refine zy2 243 245 rfl rfl rfl ?_;refine zy1 24 rfl rfl ?_;refine zs1 247 rfl rfl ?_;refine zy1 3 rfl rfl ?_;refine zs1 249 rfl rfl ?_;refine zm rfl rfl rfl ?_;refine zy2 250 251 rfl rfl rfl ?_;refine zs1 252 rfl rfl ?_;refine hC _ (fun a hF => ?_);clear hC C;refine any_one (n := 19) (fuel := 25) (by kernel_rfl) ?_;refine op_call [_, _, _] rfl rfl hF rfl (by kernel_rfl) ⟨rfl, rfl, rfl, trivial⟩ (fun K hK => ?_);clear hF
  refine (rin_any _ ak (leftS r) r.y).mono ?_
  rintro e w5 ⟨rfl, hb5⟩
  have HZ5 : Hid (WyB w w5 l gl gh ga (reachS l.aisles l.doors) gr (reachS l.aisles (l.doors ++ [d])) gs ∧ Below w13.heap.size w13 w5 ∧ PlcIn w5 gp p) := ⟨HZe.out.1.down hb5, HZe.out.2.1.trans (hb5.mono HZe.out.2.1.size), HZe.out.2.2.down hb5⟩
  have hb35 : Below w3.heap.size w3 w5 := (below_d (Below.refl w3.heap.size w3)).trans hb5
  have HR5 := Lib.hid (HR3.out.down hb35)
  clear HZ3 HZe HR3 hb5 hb35 l0 l1 l2 l3 l4 l5 l6 l7 e0 e1 e2 e3 cr q1 q2 q3 q4 q5 hla
  obtain ⟨a1, ha1⟩ : ∃ b, b = insideB ak (leftS r) r.y := ⟨_, rfl⟩
  rw [← ha1] at HNX
  rw [← ha1]
  clear ha1
  cases a1
  rotate_left
  · refine hK _ _ (fun a hF => ?_);clear hK K;refine any_chain (fuel := 0) [(20, false), (21, false), (22, true), (23, false), (24, true), (25, false), (26, true), (27, false), (28, false), (29, false), (30, true), (31, false), (32, false), (33, false), (34, true), (35, false), (36, true), (37, false), (38, false), (39, true), (40, true), (41, false), (42, false), (43, false), (44, false)] [] rfl (by kernel_rfl) (by kernel_rfl) hF (fun _ _ d _ _ h => by cases d <;> exact h) (fun C hC => ?_);clear hF;refine zm rfl rfl rfl ?_;refine zX rfl rfl rfl rfl ?_;refine zX rfl rfl rfl rfl ?_;refine zX rfl rfl rfl rfl ?_;refine zX rfl rfl rfl rfl ?_;refine zX rfl rfl rfl rfl ?_;refine zX rfl rfl rfl rfl ?_;refine zX rfl rfl rfl rfl ?_;refine zX rfl rfl rfl rfl ?_;refine zX rfl rfl rfl rfl ?_;refine zX rfl rfl rfl rfl ?_;refine zX rfl rfl rfl rfl ?_;refine zX rfl rfl rfl rfl ?_;refine zX rfl rfl rfl rfl ?_;refine zX rfl rfl rfl rfl ?_;refine zX rfl rfl rfl rfl ?_;refine zX rfl rfl rfl rfl ?_;refine zX rfl rfl rfl rfl ?_;refine zX rfl rfl rfl rfl ?_;refine zX rfl rfl rfl rfl ?_;refine zX rfl rfl rfl rfl ?_;refine zy2 255 275 rfl rfl rfl ?_;refine zy2 241 276 rfl rfl rfl ?_;refine zy2 236 277 rfl rfl rfl ?_;refine za rfl rfl rfl ?_;refine hC _ (fun a hF => ?_);clear hC C;refine any_end (by kernel_rfl) ?_;replace hF := hF.k9 3 7 9 12 18 20 21 22 23 rfl rfl rfl rfl rfl rfl rfl rfl rfl
    refine hKF _ _ ⟨?_, HZ5⟩
    rw [HNX.out]
    exact hF
  obtain ⟨l0, l1, l2, l3, l4, l5, l6, l7⟩ := HZ5.out.1.lev.cells
  obtain ⟨ba, oa, hla, e0, e1, e2, e3⟩ := HBX.out w5 HZ5.out.1.below
  rw [hla] at l4
  obtain ⟨_, q1, q2, q3, q4, q5, _, _⟩ := HR5.out.cells
  refine hK _ _ (fun a hF => ?_);clear hK K;refine any_chain (fuel := 5) [(20, false), (21, false), (22, true), (23, false), (24, true), (25, false), (26, true), (27, false), (28, false), (29, false), (30, true), (31, false), (32, false), (33, false), (34, true), (35, false), (36, true), (37, false), (38, false), (39, true)] [40] rfl (by kernel_rfl) (by kernel_rfl) hF (fun _ _ d _ _ h => by cases d <;> exact h) (fun C hC => ?_);clear hF;refine zm rfl rfl rfl ?_;refine zy1 24 rfl rfl ?_;refine zs1 256 rfl rfl ?_;refine zy1 24 rfl rfl ?_;refine zs1 258 rfl rfl ?_;refine zy1 24 rfl rfl ?_;refine zs1 260 rfl rfl ?_;refine zy2 259 261 rfl rfl rfl ?_;refine zy1 262 rfl rfl ?_;refine zy1 24 rfl rfl ?_;refine zs1 264 rfl rfl ?_;refine zy2 263 265 rfl rfl rfl ?_;refine zy2 257 266 rfl rfl rfl ?_;refine zy1 24 rfl rfl ?_;refine zs1 268 rfl rfl ?_;refine zy1 3 rfl rfl ?_;refine zs1 270 rfl rfl ?_;refine zm rfl rfl rfl ?_;refine zy2 271 272 rfl rfl rfl ?_;refine zs1 273 rfl rfl ?_;refine hC _ (fun a hF => ?_);clear hC C;refine any_one (n := 40) (fuel := 4) (by kernel_rfl) ?_;refine op_call [_, _, _] rfl rfl hF rfl (by kernel_rfl) ⟨rfl, rfl, rfl, trivial⟩ (fun K hK => ?_);clear hF
  refine (rin_any _ ak (rightS r) r.y).mono ?_
  rintro e w6 ⟨rfl, hb6⟩
  have HZ6 : Hid (WyB w w6 l gl gh ga (reachS l.aisles l.doors) gr (reachS l.aisles (l.doors ++ [d])) gs ∧ Below w13.heap.size w13 w6 ∧ PlcIn w6 gp p) := ⟨HZ5.out.1.down hb6, HZ5.out.2.1.trans (hb6.mono HZ5.out.2.1.size), HZ5.out.2.2.down hb6⟩
  clear HZ5 HR5 hb6 l0 l1 l2 l3 l4 l5 l6 l7 e0 e1 e2 e3 q1 q2 q3 q4 q5 hla
  refine hK _ _ (fun a hF => ?_);clear hK K;refine any_chain (fuel := 0) [(41, false), (42, false), (43, false), (44, false)] [] rfl (by kernel_rfl) (by kernel_rfl) hF (fun _ _ d _ _ h => by cases d <;> exact h) (fun C hC => ?_);clear hF;refine zy2 255 275 rfl rfl rfl ?_;refine zy2 241 276 rfl rfl rfl ?_;refine zy2 236 277 rfl rfl rfl ?_;refine za rfl rfl rfl ?_;refine hC _ (fun a hF => ?_);clear hC C;refine any_end (by kernel_rfl) ?_;replace hF := hF.k9 3 7 9 12 18 20 21 22 23 rfl rfl rfl rfl rfl rfl rfl rfl rfl
  refine hKF _ _ ⟨?_, HZ6⟩
  rw [HNX.out]
  exact hF
end Go.Proofs.Ytmcdhggnpfhlmaa
