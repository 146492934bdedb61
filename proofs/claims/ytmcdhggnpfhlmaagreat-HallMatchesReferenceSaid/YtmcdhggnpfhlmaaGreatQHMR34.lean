/- hall: the reference: Reached; hall: the reference: several: what it works on; plain: the loops. -/
import Derived.Test.YtmcdhggnpfhlmaaGreatQHMR23
import Derived.Test.YtmcdhggnpfhlmaaGreatQHMR31
import Derived.Test.YtmcdhggnpfhlmaaGreatQHMR33

set_option linter.unusedVariables false
set_option linter.unusedSimpArgs false
namespace Go.Proofs.YtmcdhggnpfhlmaaGreat
open Go.RowKit Go.IntWalk
set_option linter.unusedSimpArgs false
set_option linter.unusedVariables false

/-- The level in a block, the answers so far in another. -/
structure RdS (w0 w : World) (gl gb : Nat) (l : LevR) (D : List Bool) : Prop where
 below : Below w0.heap.size w0 w
 lev : LevIn w gl l
 row : BoolRow w gb 4 D
 base : w0.heap.size ≤ gb
 len : D.length = l.sn
theorem RdS.down {w0 w w' : World} {gl gb : Nat} {l : LevR} {D : List Bool} (h : RdS w0 w gl gb l D) (hb : Below w.heap.size w w') : RdS w0 w' gl gb l D :=
 ⟨h.below.trans (hb.mono h.below.size), h.lev.down hb, h.row.of_heap (hb.block gb h.row.lt), h.base, h.len⟩
theorem RdS.set {w0 w : World} {gl gb : Nat} {l : LevR} {D : List Bool} (h : RdS w0 w gl gb l D) (i : Nat) (hi : i < D.length) (v : Bool) : RdS w0 (w.setCell ⟨gb, i, none⟩ (.bool v)) gl gb l (D.set i v) := by
 have hu := Upd.setCell (S := fun b => b = gb) w gb i (.bool v) rfl
 obtain ⟨ar, er, er2⟩ := h.row
 exact ⟨Upd.below h.below h.below.size hu (fun i e => by rw [e]; exact h.base), (hu.block gl (lt_of_block h.lev) (type_ne h.lev er (by decide))).trans h.lev, h.row.set i hi v, h.base, by rw [List.length_set]; exact h.len⟩
theorem rndB_eq {A : List BoxR} {D : List Bool} {i k : Nat} (hi : i < A.length) (hk : k < A.length) : rndB A D i k = (bx D i || (bx D k && meetB A[i] A[k])) := by
 unfold rndB
 rw [List.getElem?_eq_getElem hi, List.getElem?_eq_getElem hk]

set_option maxRecDepth 100000 in
set_option maxHeartbeats 16000000 in
theorem rreached_any (w : World) (l : LevR) (hA : Recs BoxE w l.sa l.sn l.aisles) (hD : Recs PntE w l.da l.dn l.doors) (hsn : l.sn ≤ 4000) (hdn : l.dn ≤ 9223372036854775807) :
  Calls Tryz.prog 9 #[.agg #[.string (bs l.name), .int .i64 l.height, .slice l.ba l.bn l.bc, .slice l.aa l.an l.ac, .slice l.sa l.sn l.sc, .slice l.pa l.pn l.pc, .slice l.da l.dn l.dc, .int .i64 l.at']] w
   fun e w' => (∃ g, e = .returned (.slice (some ⟨g, 0, none⟩) l.sn l.sn) ∧ w.heap.size ≤ g ∧ BoolRow w' g 4 (reachS l.aisles l.doors)) ∧ Below w.heap.size w w' := by
 have HA := Lib.hid hA
 have HD := Lib.hid hD
 have HSL := Lib.hid hA.1
 have HDL := Lib.hid hD.1
 clear hA hD
 refine enter_fr (N := 102) [.agg #[.string (bs l.name), .int .i64 l.height, .slice l.ba l.bn l.bc, .slice l.aa l.an l.ac, .slice l.sa l.sn l.sc, .slice l.pa l.pn l.pc, .slice l.da l.dn l.dc, .int .i64 l.at']] (Tryz.func9) rfl Tryz.ntmps9 (by rfl) (fun a hF => ?_);replace hF := hF.kp [0] rfl;refine wp_seq_k (fun K hK => ?_);refine region_seq (l := [0, 1]) (by kernel_rfl) ?_;refine seq_one ?_;revert hF;refine qe1 fun a hF => ?_
 have HL : Hid (LevIn (w.alloc (.cells #[.string (bs l.name), .int .i64 l.height, .slice l.ba l.bn l.bc, .slice l.aa l.an l.ac, .slice l.sa l.sn l.sc, .slice l.pa l.pn l.pc, .slice l.da l.dn l.dc, .int .i64 l.at'] 32)) w.heap.size l) := World.alloc_heap_new w _
 have HB1 := Lib.hid (Joins.below_alloc1 w (.cells #[.string (bs l.name), .int .i64 l.height, .slice l.ba l.bn l.bc, .slice l.aa l.an l.ac, .slice l.sa l.sn l.sc, .slice l.pa l.pn l.pc, .slice l.da l.dn l.dc, .int .i64 l.at'] 32))
 generalize w.alloc (.cells #[.string (bs l.name), .int .i64 l.height, .slice l.ba l.bn l.bc, .slice l.aa l.an l.ac, .slice l.sa l.sn l.sc, .slice l.pa l.pn l.pc, .slice l.da l.dn l.dc, .int .i64 l.at'] 32) = w1 at *
 obtain ⟨gl, hgl⟩ : ∃ gl, gl = w.heap.size := ⟨_, rfl⟩
 rw [← hgl] at hF HL
 clear hgl
 revert hF;refine zre 1 [2] [1] fun a hF => ?_;refine hK _ _ ?_;clear hK
 have c4 : w1.cell? ⟨gl, 4, none⟩ = some (.slice l.sa l.sn l.sc) := boxed_cell (j := 4) HL.out rfl
 obtain ⟨arr, hasz, haz, hmk⟩ := make_bools l.sn hsn
 refine wp_seq_k (fun K hK => ?_);revert hF;refine zrp [4, 4, 4] [3, 4] fun a hF => ?_;refine seq_one ?_;revert hF;refine qe2 fun a hF => ?_
 have HR2 : Hid (BoolRow (w1.alloc (.cells arr 4)) w1.heap.size 4 (List.replicate l.sn false)) := BoolRow.made rfl hasz haz
 have HB2 := Lib.hid (Joins.below_alloc1 w1 (.cells arr 4))
 clear hmk hasz haz c4
 generalize w1.alloc (.cells arr 4) = w2 at *
 obtain ⟨gb, hgb⟩ : ∃ gb, gb = w1.heap.size := ⟨_, rfl⟩
 rw [← hgb] at hF HR2
 have HGB := Lib.hid hgb
 clear hgb
 revert hF;refine zre 4 [2] [1, 3] fun a hF => ?_;refine hK _ _ ?_;clear hK
 have HS : Hid (RdS w w2 gl gb l (List.replicate l.sn false)) := ⟨HB1.out.trans (HB2.out.mono HB1.out.size), HL.out.down HB2.out, HR2.out, by rw [HGB.out]; exact HB1.out.size, by simp⟩
 have HI : Hid (DrI l.aisles l.doors 0 0 (List.replicate l.sn false)) := ⟨by simp [HSL.out], fun j _ h => by omega, fun _ => bx_none, fun j _ => bx_none⟩
 clear HL HB1 HB2 HR2 HGB
 generalize List.replicate l.sn false = D at *
 refine seq_cut (fun a' w' => ∃ D : List Bool, FrF 102 [] [(1, .pointer (some ⟨gl, 0, none⟩)), (3, .slice (some ⟨gb, 0, none⟩) l.sn l.sn)] a' ∧ Hid (RdS w w' gl gb l D) ∧ Hid (RdO l.aisles l.doors 0 D)) (fun KA hKA => ?_) ?_
 ·
  skip
  revert hF;refine zrs [2] [1, 3, 4] fun a hF => ?_
  refine wp_block ?_
  refine loop_fr (fun n a' w' => ∃ (i : Nat) (D : List Bool), i + n = l.sn ∧ FrF 102 [] [(1, .pointer (some ⟨gl, 0, none⟩)), (3, .slice (some ⟨gb, 0, none⟩) l.sn l.sn), (4, .int .i64 i)] a' ∧ Hid (RdS w w' gl gb l D) ∧ Hid (DrI l.aisles l.doors i 0 D)) l.sn ⟨0, D, by omega, hF, HS, HI⟩ ?_
  clear hF HS HI
  rintro rk a wr ⟨i, D, hik, hF, HS, HI⟩ KB hKB
  refine wp_seq_k (fun K hK => ?_)
  obtain ⟨f0, f1, f2, f3, f4, f5, f6, f7⟩ := HS.out.lev.cells
  by_cases hlti : i < l.sn
  rotate_left
  ·
   have hlti : ¬ (i : Int) < (l.sn : Nat) := by omega
   revert hF;refine zrs [1, 4, 4, 4, 5] [1, 3, 4, 17] fun a hF => ?_
   clear f0 f1 f2 f3 f4 f5 f6 f7
   refine cond_no hF rfl ?_
   refine wp_exit ?_
   have hie : i = l.aisles.length := by rw [HSL.out]; omega
   rw [hie] at HI
   exact hKA _ _ ⟨D, hF.sub ⟨rfl, rfl, trivial⟩, HS, dr_end HI.out⟩
  have hlti : (i : Int) < (l.sn : Nat) := by omega
  revert hF;refine zrs [1, 4, 4, 4, 5] [1, 3, 4, 17] fun a hF => ?_
  clear f0 f1 f2 f3 f4 f5 f6 f7 hlti
  refine cond_yes hF rfl ?_
  refine wp_skip ?_
  refine hK _ _ ?_;clear hK;replace hF := hF.kp [1, 3, 4] rfl
  clear hKA
  have hil : i < l.aisles.length := by rw [HSL.out]; exact hlti
  refine seq_cut (fun a' w' => ∃ D : List Bool, FrF 102 [] [(1, .pointer (some ⟨gl, 0, none⟩)), (3, .slice (some ⟨gb, 0, none⟩) l.sn l.sn), (4, .int .i64 i)] a' ∧ Hid (RdS w w' gl gb l D) ∧ Hid (DrI l.aisles l.doors (i + 1) 0 D)) (fun KC hKC => ?_) ?_
  rotate_left
  ·
   clear hF HS HI
   rintro a w' ⟨D, hF, HS, HI⟩
   have hws : IntKind.i64.wrap ((i : Int) + 1) = ((i + 1 : Nat) : Int) := wrap_succ (by omega)
   revert hF;refine zrg [1, 4, 2] [1, 3, 4] fun a hF => ?_
   exact hKB (l.sn - (i + 1)) _ _ (by omega) ⟨i + 1, D, by omega, hF, HS, HI⟩
  clear hKB hik
  refine wp_block ?_
  revert hF;refine zrs [2] [1, 3, 4, 5] fun a hF => ?_
  refine wp_block ?_
  refine loop_fr (fun n a' w' => ∃ (k : Nat) (D : List Bool), k + n = l.dn ∧ FrF 102 [] [(1, .pointer (some ⟨gl, 0, none⟩)), (3, .slice (some ⟨gb, 0, none⟩) l.sn l.sn), (4, .int .i64 i), (5, .int .i64 k)] a' ∧ Hid (RdS w w' gl gb l D) ∧ Hid (DrI l.aisles l.doors i k D)) l.dn ⟨0, D, by omega, hF, HS, HI⟩ ?_
  clear hF HS HI
  rintro rk a wr ⟨k, D, hkk, hF, HS, HI⟩ KE hKE
  refine wp_seq_k (fun K hK => ?_)
  obtain ⟨f0, f1, f2, f3, f4, f5, f6, f7⟩ := HS.out.lev.cells
  by_cases hltk : k < l.dn
  rotate_left
  ·
   have hlti : ¬ (k : Int) < (l.dn : Nat) := by omega
   revert hF;refine zrs [1, 4, 4, 4, 5] [1, 3, 4, 5, 24] fun a hF => ?_
   clear f0 f1 f2 f3 f4 f5 f6 f7
   refine cond_no hF rfl ?_
   refine wp_exit ?_
   have hke : k = l.doors.length := by rw [HDL.out]; omega
   rw [hke] at HI
   exact hKC _ _ ⟨D, hF.sub ⟨rfl, rfl, rfl, trivial⟩, HS, dr_next HI.out⟩
  have hlti : (k : Int) < (l.dn : Nat) := by omega
  revert hF;refine zrs [1, 4, 4, 4, 5] [1, 3, 4, 5, 24] fun a hF => ?_
  clear f0 f1 f2 f3 f4 f5 f6 f7 hlti
  refine cond_yes hF rfl ?_
  refine wp_skip ?_
  refine hK _ _ ?_;clear hK;replace hF := hF.kp [1, 3, 4, 5] rfl
  clear hKC
  have hkl : k < l.doors.length := by rw [HDL.out]; exact hltk
  have hid : i < D.length := by rw [HS.out.len]; exact hlti
  refine seq_cut (fun a' w' => ∃ D : List Bool, FrF 102 [] [(1, .pointer (some ⟨gl, 0, none⟩)), (3, .slice (some ⟨gb, 0, none⟩) l.sn l.sn), (4, .int .i64 i), (5, .int .i64 k)] a' ∧ Hid (RdS w w' gl gb l D) ∧ Hid (DrI l.aisles l.doors i (k + 1) D)) (fun KD hKD => ?_) ?_
  rotate_left
  ·
   clear hF HS HI hid
   rintro a w' ⟨D, hF, HS, HI⟩
   have hws : IntKind.i64.wrap ((k : Int) + 1) = ((k + 1 : Nat) : Int) := wrap_succ (by omega)
   revert hF;refine zrg [1, 4, 2] [1, 3, 4, 5] fun a hF => ?_
   exact hKE (l.dn - (k + 1)) _ _ (by omega) ⟨k + 1, D, by omega, hF, HS, HI⟩
  clear hKE hkk
  have hii : (i : Int) < (l.sn : Nat) := by omega
  have hki : (k : Int) < (l.dn : Nat) := by omega
  refine wp_block ?_
  have HSd : Hid (RdS w wr.drew gl gb l D) := HS.out.down (below_d (Below.refl _ _))
  clear HS
  have HIn := Lib.hid (dr_step HI.out hil hkl)
  clear HI
  obtain ⟨f0, f1, f2, f3, f4, f5, f6, f7⟩ := HSd.out.lev.cells
  obtain ⟨b, o, hsa, d0, d1, d2, d3⟩ := box_at (HA.out.below HSd.out.below) i hlti hil
  obtain ⟨b', o', hda, e0, e1⟩ := pnt_at (HD.out.below HSd.out.below) k hltk hkl
  rw [hsa] at f4
  rw [hda] at f6
  clear hsa hda
  generalize l.aisles[i] = ai at *
  generalize l.doors[k] = dk at *
  have g0 := HSd.out.row.cell i hid
  have g1 := HSd.out.row.free i
  obtain ⟨y, hy⟩ : ∃ y, bx D i = y := ⟨_, rfl⟩
  rw [hy] at g0 HIn
  clear hy
  cases y
  rotate_left
  ·
   rw [Bool.true_or] at HIn
   refine region_any (by kernel_rfl) ?_;revert hF;refine zra (fuel := 1) [1, 33, 65, 97, 138, 180, 193, 224, 272, 288, 320, 352, 400, 416, 464, 480, 512, 544, 592, 608, 656, 672, 704, 752, 784, 810, 842] [27] fun a hF => ?_;refine any_one (n := 27) (fuel := 0) (by kernel_rfl) ?_;revert hF;refine qu2 fun a hF => ?_;refine any_end (by kernel_rfl) ?_;replace hF := hF.kp [1, 3, 4, 5] rfl
   exact hKD _ _ ⟨_, hF, HSd.out.set i hid true, HIn⟩
  rw [Bool.false_or] at HIn
  refine region_any (by kernel_rfl) ?_;revert hF;refine zra (fuel := 4) [1, 33, 65, 97, 138, 180, 193, 233, 276, 289, 330, 361, 404, 425, 468, 481, 522, 553, 596, 617, 660, 673, 714, 756] [24, 27] fun a hF => ?_;refine any_one (n := 24) (fuel := 3) (by kernel_rfl) ?_;revert hF;refine zoc fun K hK => ?_
  refine (rin_any _ ai dk.x dk.y).mono ?_
  rintro e w3 ⟨rfl, hb3⟩
  have HS3 := Lib.hid (HSd.out.down hb3)
  clear HSd hb3 f0 f1 f2 f3 f4 f5 f6 f7 d0 d1 d2 d3 e0 e1 g0 g1
  have g0 := HS3.out.row.cell i hid
  have g1 := HS3.out.row.free i
  generalize insideB ai dk.x dk.y = z at *
  refine hK _ _ (fun a hF => ?_);clear hK K;revert hF;refine zra (fuel := 1) [810, 842] [27] fun a hF => ?_;refine any_one (n := 27) (fuel := 0) (by kernel_rfl) ?_;revert hF;refine qu2 fun a hF => ?_;refine any_end (by kernel_rfl) ?_;replace hF := hF.kp [1, 3, 4, 5] rfl
  exact hKD _ _ ⟨_, hF, HS3.out.set i hid z, HIn⟩
 clear hF HS HI
 rintro a wq ⟨D, hF, HS, HI⟩
 refine seq_cut (fun a' w' => ∃ D : List Bool, FrF 102 [] [(1, .pointer (some ⟨gl, 0, none⟩)), (3, .slice (some ⟨gb, 0, none⟩) l.sn l.sn)] a' ∧ Hid (RdS w w' gl gb l D) ∧ Hid (RdO l.aisles l.doors l.aisles.length D)) (fun KA hKA => ?_) ?_
 ·
  skip
  revert hF;refine zrs [2] [1, 3, 6] fun a hF => ?_
  refine wp_block ?_
  refine loop_fr (fun n a' w' => ∃ (r : Nat) (D : List Bool), r + n = l.sn ∧ FrF 102 [] [(1, .pointer (some ⟨gl, 0, none⟩)), (3, .slice (some ⟨gb, 0, none⟩) l.sn l.sn), (6, .int .i64 r)] a' ∧ Hid (RdS w w' gl gb l D) ∧ Hid (RdO l.aisles l.doors r D)) l.sn ⟨0, D, by omega, hF, HS, HI⟩ ?_
  clear hF HS HI
  rintro rk a wr ⟨r, D, hrr, hF, HS, HI⟩ KB hKB
  refine wp_seq_k (fun K hK => ?_)
  obtain ⟨f0, f1, f2, f3, f4, f5, f6, f7⟩ := HS.out.lev.cells
  by_cases hltr : r < l.sn
  rotate_left
  ·
   have hlti : ¬ (r : Int) < (l.sn : Nat) := by omega
   revert hF;refine zrs [1, 4, 4, 4, 5] [1, 3, 6, 58] fun a hF => ?_
   clear f0 f1 f2 f3 f4 f5 f6 f7
   refine cond_no hF rfl ?_
   refine wp_exit ?_
   have hie : r = l.aisles.length := by rw [HSL.out]; omega
   rw [hie] at HI
   exact hKA _ _ ⟨D, hF.sub ⟨rfl, rfl, trivial⟩, HS, HI⟩
  have hlti : (r : Int) < (l.sn : Nat) := by omega
  revert hF;refine zrs [1, 4, 4, 4, 5] [1, 3, 6, 58] fun a hF => ?_
  clear f0 f1 f2 f3 f4 f5 f6 f7 hlti
  refine cond_yes hF rfl ?_
  refine wp_skip ?_
  refine hK _ _ ?_;clear hK;replace hF := hF.kp [1, 3, 6] rfl
  clear hKA
  refine seq_cut (fun a' w' => ∃ D : List Bool, FrF 102 [] [(1, .pointer (some ⟨gl, 0, none⟩)), (3, .slice (some ⟨gb, 0, none⟩) l.sn l.sn), (6, .int .i64 r)] a' ∧ Hid (RdS w w' gl gb l D) ∧ Hid (RdO l.aisles l.doors (r + 1) D)) (fun KC hKC => ?_) ?_
  rotate_left
  ·
   clear hF HS HI
   rintro a w' ⟨D, hF, HS, HI⟩
   have hws : IntKind.i64.wrap ((r : Int) + 1) = ((r + 1 : Nat) : Int) := wrap_succ (by omega)
   revert hF;refine zrg [1, 4, 2] [1, 3, 6] fun a hF => ?_
   exact hKB (l.sn - (r + 1)) _ _ (by omega) ⟨r + 1, D, by omega, hF, HS, HI⟩
  clear hKB hrr
  have HJ := Lib.hid (rnd_start HI.out.len HI.out.snd)
  have HRO := HI
  clear HI
  obtain ⟨D0, hD0⟩ : ∃ D0, D0 = D := ⟨_, rfl⟩
  have HJ0 : Hid (RndI l.aisles l.doors D0 D 0 0) := by rw [hD0]; exact HJ
  rw [← hD0] at HRO
  clear HJ hD0
  refine wp_block ?_
  revert hF;refine zrs [2] [1, 3, 6, 7] fun a hF => ?_
  refine wp_block ?_
  refine loop_fr (fun n a' w' => ∃ (i : Nat) (D : List Bool), i + n = l.sn ∧ FrF 102 [] [(1, .pointer (some ⟨gl, 0, none⟩)), (3, .slice (some ⟨gb, 0, none⟩) l.sn l.sn), (6, .int .i64 r), (7, .int .i64 i)] a' ∧ Hid (RdS w w' gl gb l D) ∧ Hid (RndI l.aisles l.doors D0 D i 0)) l.sn ⟨0, D, by omega, hF, HS, HJ0⟩ ?_
  clear hF HS HJ0
  rintro rk a wr ⟨i, D, hik, hF, HS, HJ⟩ KD hKD
  refine wp_seq_k (fun K hK => ?_)
  obtain ⟨f0, f1, f2, f3, f4, f5, f6, f7⟩ := HS.out.lev.cells
  by_cases hlti : i < l.sn
  rotate_left
  ·
   have hlti : ¬ (i : Int) < (l.sn : Nat) := by omega
   revert hF;refine zrs [1, 4, 4, 4, 5] [1, 3, 6, 7, 65] fun a hF => ?_
   clear f0 f1 f2 f3 f4 f5 f6 f7
   refine cond_no hF rfl ?_
   refine wp_exit ?_
   have hie : i = l.aisles.length := by rw [HSL.out]; omega
   rw [hie] at HJ
   exact hKC _ _ ⟨D, hF.sub ⟨rfl, rfl, rfl, trivial⟩, HS, rdo_next HRO.out HJ.out⟩
  have hlti : (i : Int) < (l.sn : Nat) := by omega
  revert hF;refine zrs [1, 4, 4, 4, 5] [1, 3, 6, 7, 65] fun a hF => ?_
  clear f0 f1 f2 f3 f4 f5 f6 f7 hlti
  refine cond_yes hF rfl ?_
  refine wp_skip ?_
  refine hK _ _ ?_;clear hK;replace hF := hF.kp [1, 3, 6, 7] rfl
  clear hKC
  have hil : i < l.aisles.length := by rw [HSL.out]; exact hlti
  refine seq_cut (fun a' w' => ∃ D : List Bool, FrF 102 [] [(1, .pointer (some ⟨gl, 0, none⟩)), (3, .slice (some ⟨gb, 0, none⟩) l.sn l.sn), (6, .int .i64 r), (7, .int .i64 i)] a' ∧ Hid (RdS w w' gl gb l D) ∧ Hid (RndI l.aisles l.doors D0 D (i + 1) 0)) (fun KE hKE => ?_) ?_
  rotate_left
  ·
   clear hF HS HJ
   rintro a w' ⟨D, hF, HS, HJ⟩
   have hws : IntKind.i64.wrap ((i : Int) + 1) = ((i + 1 : Nat) : Int) := wrap_succ (by omega)
   revert hF;refine zrg [1, 4, 2] [1, 3, 6, 7] fun a hF => ?_
   exact hKD (l.sn - (i + 1)) _ _ (by omega) ⟨i + 1, D, by omega, hF, HS, HJ⟩
  clear hKD hik
  refine wp_block ?_
  revert hF;refine zrs [2] [1, 3, 6, 7, 8] fun a hF => ?_
  refine wp_block ?_
  refine loop_fr (fun n a' w' => ∃ (k : Nat) (D : List Bool), k + n = l.sn ∧ FrF 102 [] [(1, .pointer (some ⟨gl, 0, none⟩)), (3, .slice (some ⟨gb, 0, none⟩) l.sn l.sn), (6, .int .i64 r), (7, .int .i64 i), (8, .int .i64 k)] a' ∧ Hid (RdS w w' gl gb l D) ∧ Hid (RndI l.aisles l.doors D0 D i k)) l.sn ⟨0, D, by omega, hF, HS, HJ⟩ ?_
  clear hF HS HJ
  rintro rk a wr ⟨k, D, hkk, hF, HS, HJ⟩ KF hKF
  refine wp_seq_k (fun K hK => ?_)
  obtain ⟨f0, f1, f2, f3, f4, f5, f6, f7⟩ := HS.out.lev.cells
  by_cases hltk : k < l.sn
  rotate_left
  ·
   have hlti : ¬ (k : Int) < (l.sn : Nat) := by omega
   revert hF;refine zrs [1, 4, 4, 4, 5] [1, 3, 6, 7, 8, 72] fun a hF => ?_
   clear f0 f1 f2 f3 f4 f5 f6 f7
   refine cond_no hF rfl ?_
   refine wp_exit ?_
   have hke : k = l.aisles.length := by rw [HSL.out]; omega
   rw [hke] at HJ
   exact hKE _ _ ⟨D, hF.sub ⟨rfl, rfl, rfl, rfl, trivial⟩, HS, rnd_row HJ.out⟩
  have hlti : (k : Int) < (l.sn : Nat) := by omega
  revert hF;refine zrs [1, 4, 4, 4, 5] [1, 3, 6, 7, 8, 72] fun a hF => ?_
  clear f0 f1 f2 f3 f4 f5 f6 f7 hlti
  refine cond_yes hF rfl ?_
  refine wp_skip ?_
  refine hK _ _ ?_;clear hK;replace hF := hF.kp [1, 3, 6, 7, 8] rfl
  clear hKE
  have hkl : k < l.aisles.length := by rw [HSL.out]; exact hltk
  have hid : i < D.length := by rw [HS.out.len]; exact hlti
  have hkd : k < D.length := by rw [HS.out.len]; exact hltk
  refine seq_cut (fun a' w' => ∃ D : List Bool, FrF 102 [] [(1, .pointer (some ⟨gl, 0, none⟩)), (3, .slice (some ⟨gb, 0, none⟩) l.sn l.sn), (6, .int .i64 r), (7, .int .i64 i), (8, .int .i64 k)] a' ∧ Hid (RdS w w' gl gb l D) ∧ Hid (RndI l.aisles l.doors D0 D i (k + 1))) (fun KG hKG => ?_) ?_
  rotate_left
  ·
   clear hF HS HJ hid hkd
   rintro a w' ⟨D, hF, HS, HJ⟩
   have hws : IntKind.i64.wrap ((k : Int) + 1) = ((k + 1 : Nat) : Int) := wrap_succ (by omega)
   revert hF;refine zrg [1, 4, 2] [1, 3, 6, 7, 8] fun a hF => ?_
   exact hKF (l.sn - (k + 1)) _ _ (by omega) ⟨k + 1, D, by omega, hF, HS, HJ⟩
  clear hKF hkk
  have hii : (i : Int) < (l.sn : Nat) := by omega
  have hki : (k : Int) < (l.sn : Nat) := by omega
  refine wp_block ?_
  have HSd : Hid (RdS w wr.drew gl gb l D) := HS.out.down (below_d (Below.refl _ _))
  clear HS
  have HIn := Lib.hid (rnd_step HJ.out hil hkl)
  rw [rndB_eq hil hkl] at HIn
  clear HJ HRO
  obtain ⟨f0, f1, f2, f3, f4, f5, f6, f7⟩ := HSd.out.lev.cells
  obtain ⟨b, o, hsa, d0, d1, d2, d3⟩ := box_at (HA.out.below HSd.out.below) i hlti hil
  obtain ⟨b', o', hsa', e0, e1, e2, e3⟩ := box_at (HA.out.below HSd.out.below) k hltk hkl
  obtain ⟨rfl, rfl⟩ : b' = b ∧ o' = o := by rw [hsa] at hsa'; simpa using hsa'.symm
  rw [hsa] at f4
  clear hsa hsa'
  generalize l.aisles[i] = ai at *
  generalize l.aisles[k] = ak at *
  have g0 := HSd.out.row.cell i hid
  have g1 := HSd.out.row.free i
  have g2 := HSd.out.row.cell k hkd
  obtain ⟨y, hy⟩ : ∃ y, bx D i = y := ⟨_, rfl⟩
  rw [hy] at g0 HIn
  clear hy
  cases y
  rotate_left
  ·
   rw [Bool.true_or] at HIn
   clear g2
   refine region_any (by kernel_rfl) ?_;revert hF;refine zra (fuel := 1) [1, 33, 65, 97, 138, 180, 193, 224, 256, 288, 336, 352, 384, 432, 448, 480, 528, 544, 592, 608, 640, 688, 720, 736, 778, 810] [26] fun a hF => ?_;refine any_one (n := 26) (fuel := 0) (by kernel_rfl) ?_;revert hF;refine qu2 fun a hF => ?_;refine any_end (by kernel_rfl) ?_;replace hF := hF.kp [1, 3, 6, 7, 8] rfl
   exact hKG _ _ ⟨_, hF, HSd.out.set i hid true, HIn⟩
  rw [Bool.false_or] at HIn
  obtain ⟨z, hz⟩ : ∃ z, bx D k = z := ⟨_, rfl⟩
  rw [hz] at g2 HIn
  clear hz
  cases z
  ·
   rw [Bool.false_and] at HIn
   refine region_any (by kernel_rfl) ?_;revert hF;refine zra (fuel := 1) [1, 33, 65, 97, 138, 180, 193, 225, 257, 298, 340, 353, 384, 432, 448, 480, 528, 544, 592, 608, 640, 688, 720, 746, 778, 810] [26] fun a hF => ?_;refine any_one (n := 26) (fuel := 0) (by kernel_rfl) ?_;revert hF;refine qu2 fun a hF => ?_;refine any_end (by kernel_rfl) ?_;replace hF := hF.kp [1, 3, 6, 7, 8] rfl
   exact hKG _ _ ⟨_, hF, HSd.out.set i hid false, HIn⟩
  rw [Bool.true_and] at HIn
  refine region_any (by kernel_rfl) ?_;revert hF;refine zra (fuel := 5) [1, 33, 65, 97, 138, 180, 193, 225, 257, 298, 340, 353, 393, 436, 449, 490, 532, 553, 596, 609, 650, 692] [22, 26] fun a hF => ?_;refine any_one (n := 22) (fuel := 4) (by kernel_rfl) ?_;revert hF;refine zoc fun K hK => ?_
  refine (rmeet_any _ ai ak).mono ?_
  rintro e w3 ⟨rfl, hb3⟩
  have HS3 := Lib.hid (HSd.out.down hb3)
  clear HSd hb3 f0 f1 f2 f3 f4 f5 f6 f7 d0 d1 d2 d3 e0 e1 e2 e3 g0 g1 g2
  have g0 := HS3.out.row.cell i hid
  have g1 := HS3.out.row.free i
  generalize meetB ai ak = z at *
  refine hK _ _ (fun a hF => ?_);clear hK K;revert hF;refine zra (fuel := 1) [746, 778, 810] [26] fun a hF => ?_;refine any_one (n := 26) (fuel := 0) (by kernel_rfl) ?_;revert hF;refine qu2 fun a hF => ?_;refine any_end (by kernel_rfl) ?_;replace hF := hF.kp [1, 3, 6, 7, 8] rfl
  exact hKG _ _ ⟨_, hF, HS3.out.set i hid z, HIn⟩
 clear hF HS HI
 rintro a wq ⟨D, hF, HS, HI⟩
 revert hF;refine zrs [1, 2] [2] fun a hF => ?_;refine wp_ret ?_;(try simp only [then_ret, block_ret, goto_ret]);revert hF;refine zq ?_
 rw [← rdo_end HI.out]
 exact ⟨⟨gb, rfl, HS.out.base, HS.out.row⟩, HS.out.below⟩
end Go.Proofs.YtmcdhggnpfhlmaaGreat

namespace Go.Proofs.YtmcdhggnpfhlmaaGreat
open Go.RowKit Go.IntWalk
set_option linter.unusedSimpArgs false
set_option linter.unusedVariables false

abbrev FltT (T : TypeId) : Prop := T = 55
/-- A row of records that a call owns. -/
def OwnR (w0 w : World) (sa : Option Addr) (ca : Nat) (l : List RowR) : Prop := w.ownsRow w0.heap.size 49 8 (.slice sa l.length ca) l.length (flat RowE l)
theorem OwnR.recs {w0 w : World} {sa : Option Addr} {ca : Nat} {l : List RowR} (h : OwnR w0 w sa ca l) : Recs RowE w sa l.length l := by
 obtain ⟨la, c, e, hr, _⟩ := Rcs.of_own h
 cases e
 exact hr
theorem OwnR.tupd {w0 w w' : World} {sa : Option Addr} {ca : Nat} {l : List RowR} (h : OwnR w0 w sa ca l) (ht : TUpd FltT w w') : OwnR w0 w' sa ca l := by
 refine row_of_heap h fun b hb => ?_
 obtain ⟨cur, hh⟩ := own_type h hb
 rw [hh]
 exact ht.keep hh (by decide)
theorem OwnR.of {w0 w : World} {v : Value} {l : List RowR} (h : w.ownsRow w0.heap.size 49 8 v l.length (flat RowE l)) : ∃ sa ca, v = .slice sa l.length ca ∧ OwnR w0 w sa ca l := by
 obtain ⟨la, c, rfl, _⟩ := Rcs.of_own h
 exact ⟨la, c, rfl, h⟩
/-- The list of faults. -/
def RvO (w0 w : World) (v : Value) (L : List FaultR) : Prop := w.ownsRow w0.heap.size 55 3 v L.length (flat FaultE L)
theorem RvO.down {w0 w w' : World} {v : Value} {L : List FaultR} (h : RvO w0 w v L) (hb : Below w.heap.size w w') : RvO w0 w' v L := row_of_heap h fun b hh => hb.block b (h.lt b hh).2
/-- What several works on, but for the list of faults. -/
structure RvE (w0 w : World) (l : LevR) (gl gr : Nat) (la : Option Addr) (ca : Nat) : Prop where
 below : Below w0.heap.size w0 w
 arg : LevIn w gl l
 re : BoolRow w gr 4 (reachS l.aisles l.doors)
 all : OwnR w0 w la ca (allRows l)
theorem RvE.tupd {w0 w w' : World} {l : LevR} {gl gr : Nat} {la : Option Addr} {ca : Nat} (h : RvE w0 w l gl gr la ca) (hb : Below w0.heap.size w0 w') (ht : TUpd FltT w w') : RvE w0 w' l gl gr la ca :=
 ⟨hb, h.arg.tupd ht (by decide), by
  obtain ⟨arr, h1, h2, h3⟩ := h.re
  exact ⟨arr, ht.keep h1 (by decide), h2, h3⟩, h.all.tupd ht⟩
theorem RvE.down {w0 w w' : World} {l : LevR} {gl gr : Nat} {la : Option Addr} {ca : Nat} (h : RvE w0 w l gl gr la ca) (hb : Below w.heap.size w w') : RvE w0 w' l gl gr la ca :=
 h.tupd (h.below.trans (hb.mono h.below.size)) (TUpd.of_below hb)
theorem OwnR.down {w0 w w' : World} {sa : Option Addr} {ca : Nat} {l : List RowR} (h : OwnR w0 w sa ca l) (hb : Below w.heap.size w w') : OwnR w0 w' sa ca l := h.tupd (TUpd.of_below hb)

/-- A fault more: append's run. -/
theorem rv_app {w0 w : World} {v : Value} {L : List FaultR} (x : FaultR) (hb : Below w0.heap.size w0 w) (ho : RvO w0 w v L) (hl : L.length ≤ 900000) :
  ∃ v' w', (Builtin.append_ #[36, 36] 36 #[v, .slice (some ⟨w.heap.size, 0, none⟩) 1 1]).run Tryz.prog (w.alloc (.cells #[.int .i64 x.err, .int .i64 x.at', .int .i64 x.other] 55)) = .ok v' w' ∧ Below w0.heap.size w0 w' ∧ RvO w0 w' v' (L ++ [x]) ∧ TUpd FltT w w' := by
 have hba := Joins.below_alloc1 w (.cells #[.int .i64 x.err, .int .i64 x.at', .int .i64 x.other] 55)
 have hn := recs_alloc FaultE w 55 [x] #[.int .i64 x.err, .int .i64 x.at', .int .i64 x.other] rfl
 have hs2 : w0.heap.size ≤ (w.alloc (.cells #[.int .i64 x.err, .int .i64 x.at', .int .i64 x.other] 55)).heap.size := Nat.le_trans hb.size hba.size
 have ho2 := ho.down hba
 obtain ⟨v', w3, hAPP, ho3, hg, _⟩ := append_recs (E := FaultE) 36 55 36 Tryz.underlying36 info_fault rfl (by decide) ho2 (u := .slice (some ⟨w.heap.size, 0, none⟩) 1 1) ⟨_, _, rfl, hn, fun h => by cases h⟩ (by simp; omega) hs2
 refine ⟨v', w3, hAPP, (hb.trans (hba.mono hb.size)).grown hg hs2 (fun k hk => (ho2.lt k hk).1), ?_, (TUpd.of_below hba).trans (TUpd.of_grown hg fun b hb => ?_)⟩
 ·
  unfold RvO
  rw [List.length_append]
  exact ho3
 ·
  obtain ⟨cur, hh⟩ := own_type ho2 hb
  exact ⟨_, _, _, hh, rfl⟩

/-! ### The loops, plain -/
theorem any_take {α : Type} {p : α → Bool} {xs : List α} {i : Nat} (h : i < xs.length) : (xs.take (i + 1)).any p = ((xs.take i).any p || p xs[i]) := by
 rw [List.take_succ_eq_append_getElem h, List.any_append]
 simp
def shB (r x : RowR) (p : Int × Int) (n : Nat) : Bool := ((seatsS x).take n).any fun q => decide (p.2 = q.2) && decide (r.y = x.y)
def shA (r x : RowR) (m : Nat) : Bool := ((seatsS r).take m).any fun p => shB r x p (seatsS x).length
theorem shA_all (r x : RowR) : shA r x (seatsS r).length = shareB r x := by
 unfold shA shB shareB
 rw [List.take_length, List.take_length]
theorem shA_next {r x : RowR} {m : Nat} (h : m < (seatsS r).length) : shA r x (m + 1) = (shA r x m || shB r x (seatsS r)[m] (seatsS x).length) := any_take h
theorem shB_next {r x : RowR} {p : Int × Int} {n : Nat} (h : n < (seatsS x).length) : shB r x p (n + 1) = (shB r x p n || (decide (p.2 = (seatsS x)[n].2) && decide (r.y = x.y))) := any_take h
theorem shB_zero (r x : RowR) (p : Int × Int) : shB r x p 0 = false := rfl
theorem shA_zero (r x : RowR) : shA r x 0 = false := rfl
def blP (l : LevR) (r : RowR) (p : Int × Int) (n : Nat) : Bool := (l.pillars.take n).any fun b => insideB b p.2 r.y
def blS (l : LevR) (r : RowR) (p : Int × Int) (n : Nat) : Bool := (l.aisles.take n).any fun b => insideB b p.2 r.y
def blA (l : LevR) (r : RowR) (m : Nat) : Bool := ((seatsS r).take m).any fun p => blP l r p l.pillars.length || blS l r p l.aisles.length
theorem blA_all (l : LevR) (r : RowR) : blA l r (seatsS r).length = blockedB l r := by
 unfold blA blP blS blockedB
 rw [List.take_length, List.take_length, List.take_length]
theorem blA_next {l : LevR} {r : RowR} {m : Nat} (h : m < (seatsS r).length) : blA l r (m + 1) = (blA l r m || (blP l r (seatsS r)[m] l.pillars.length || blS l r (seatsS r)[m] l.aisles.length)) := any_take h
theorem blP_next {l : LevR} {r : RowR} {p : Int × Int} {n : Nat} (h : n < l.pillars.length) : blP l r p (n + 1) = (blP l r p n || insideB l.pillars[n] p.2 r.y) := any_take h
theorem blS_next {l : LevR} {r : RowR} {p : Int × Int} {n : Nat} (h : n < l.aisles.length) : blS l r p (n + 1) = (blS l r p n || insideB l.aisles[n] p.2 r.y) := any_take h
def opB (re : List Bool) (l : LevR) (is : BoxR → Bool) (n : Nat) : Bool := ((l.aisles.zip re).take n).any fun p => p.2 && is p.1
theorem opB_next {re : List Bool} {l : LevR} {is : BoxR → Bool} {n : Nat} (h : n < l.aisles.length) (hr : n < re.length) : opB re l is (n + 1) = (opB re l is n || (bx re n && is l.aisles[n])) := by
 unfold opB
 rw [any_take (by simp; omega), List.getElem_zip]
 have : bx re n = re[n] := by unfold bx; simp [hr]
 rw [this]
theorem opB_all {re : List Bool} {l : LevR} (is : BoxR → Bool) (h : re.length = l.aisles.length) : opB re l is l.aisles.length = openB re l is := by
 unfold opB openB
 rw [List.take_of_length_le (by simp; omega)]
def inA (a : AreaR) (x : RowR) (n : Nat) : Bool := ((seatsS x).take n).any fun p => insideB a.box p.2 x.y
theorem inA_all (a : AreaR) (x : RowR) : inA a x (seatsS x).length = inAreaB a x := by
 unfold inA inAreaB
 rw [List.take_length]
theorem inA_next {a : AreaR} {x : RowR} {n : Nat} (h : n < (seatsS x).length) : inA a x (n + 1) = (inA a x n || insideB a.box (seatsS x)[n].2 x.y) := any_take h
/-- What a filter has given behind n elements. -/
def filF {α : Type} (xs : List α) (p : α → Bool) (f : α → FaultR) (n : Nat) : List FaultR := ((xs.take n).filter p).map f
theorem filF_next {α : Type} {xs : List α} {p : α → Bool} {f : α → FaultR} {n : Nat} (h : n < xs.length) : filF xs p f (n + 1) = filF xs p f n ++ (if p xs[n] then [f xs[n]] else []) := by
 unfold filF
 rw [List.take_succ_eq_append_getElem h, List.filter_append, List.map_append]
 cases e : p xs[n] <;> simp [e]
theorem filF_len {α : Type} (xs : List α) (p : α → Bool) (f : α → FaultR) (n : Nat) : (filF xs p f n).length ≤ xs.length := by
 unfold filF
 rw [List.length_map]
 exact Nat.le_trans (List.length_filter_le _ _) (by simp; omega)
theorem filF_take {α : Type} (xs : List α) (p : α → Bool) (f : α → FaultR) (n : Nat) : filF xs p f n = ((xs.take n).filter p).map f := rfl
/-- The faults of the first rows. -/
def svF (re : List Bool) (l : LevR) (i : Nat) : List FaultR := sevF re l ((allRows l).take i)
theorem svF_next {re : List Bool} {l : LevR} {i : Nat} (h : i < (allRows l).length) : svF re l (i + 1) = svF re l i ++ (((filF (allRows l) (fun x => shareB (allRows l)[i] x) (fun x => ⟨13, (allRows l)[i].at', x.at'⟩) i) ++ (if blockedB l (allRows l)[i] then [⟨13, (allRows l)[i].at', -1⟩] else [])) ++ (if besideB re l (allRows l)[i] then [] else [⟨14, (allRows l)[i].at', -1⟩])) := by
 unfold svF
 rw [List.take_succ_eq_append_getElem h, sevF_next]
 rfl
theorem arF_next2 {re : List Bool} {l : LevR} {i : Nat} (h : i < l.areas.length) : arF re l (i + 1) = arF re l i ++ ((filF (allRows l) (fun r => inAreaB l.areas[i] r) (fun r => ⟨13, l.areas[i].at', r.at'⟩) (allRows l).length ++ filF l.areas (fun b => meetB l.areas[i].box b.box) (fun b => ⟨13, l.areas[i].at', b.at'⟩) i) ++ (if openB re l (fun b => meetB l.areas[i].box b) then [] else [⟨14, l.areas[i].at', -1⟩])) := by
 rw [arF_next re l h, filF_take, List.take_length]
 rfl
end Go.Proofs.YtmcdhggnpfhlmaaGreat
