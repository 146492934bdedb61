/- hall: seats: a function called for each place of a row; hall: the closures of several; hall: several$4: does a row lie in an area; hall: Build$1: the places of a row are counted. -/
import Derived.Test.YtmcdhggnpfhlmaaGreatQHMR05
import Derived.Test.YtmcdhggnpfhlmaaGreatQHMR10

set_option linter.unusedVariables false
set_option linter.unusedSimpArgs false
namespace Go.Proofs.YtmcdhggnpfhlmaaGreat
open Go.RowKit Go.IntWalk
set_option linter.unusedSimpArgs false
set_option linter.unusedVariables false

/-- A row that has no fault. -/
structure RowOk (r : RowR) : Prop where
 fr : 1 ≤ r.fr
 ft : r.fr ≤ r.to
 to : r.to ≤ 10000
 st : 1 ≤ r.step
 cx : 0 ≤ r.x ∧ r.x ≤ 10000
 cy : 0 ≤ r.y ∧ r.y ≤ 10000
 far : r.fr < r.to → r.step ≤ 10000 ∧ r.x + (r.to - r.fr) * r.step ≤ 10000
 few : r.to - r.fr < 60

/-- The seats among the first i numbers. -/
def seatL (r : RowR) (i : Nat) : List (Int × Int) := ((List.range i).map fun (i : Nat) => (r.fr + i, r.x + i * r.step)).filter fun p => !decide ((markS r.marks p.1).kind = 1)
theorem seatL_all (r : RowR) : seatL r (spanS r.fr r.to) = seatsS r := rfl
theorem seatL_next (r : RowR) (i : Nat) : seatL r (i + 1) = seatL r i ++ if (markS r.marks (r.fr + i)).kind = 1 then [] else [(r.fr + i, r.x + i * r.step)] := by
 unfold seatL
 rw [List.range_succ, List.map_append, List.filter_append]
 congr 1
 by_cases h : (markS r.marks (r.fr + i)).kind = 1 <;> simp [h]
theorem seatL_pre (r : RowR) : ∀ (j i : Nat), seatL r i <+: seatL r (i + j)
 | 0, i => List.prefix_rfl
 | j + 1, i => by
  rw [← Nat.add_assoc, seatL_next]
  exact (seatL_pre r j i).trans (List.prefix_append _ _)
theorem seatL_sub (r : RowR) {i : Nat} (h : i ≤ spanS r.fr r.to) : seatL r i <+: seatsS r := by
 have := seatL_pre r (spanS r.fr r.to - i) i
 rw [show i + (spanS r.fr r.to - i) = spanS r.fr r.to from by omega] at this
 exact this

theorem run_field_mark (a b c : Int) (w : World) : (Instr.field 46 (.agg #[.int .i64 a, .int .i64 b, .int .i64 c]) 0).run Tryz.prog w = .ok (.int .i64 a) w := by kernel_rfl

/-- Rows in blocks of their own stay. -/
def RowK (w w' : World) : Prop := ∀ (b : Nat) (arr : Array Value) (x : Nat × Nat), w.heap[b]? = some (.cells arr 49 x) → w'.heap[b]? = some (.cells arr 49 x)
theorem RowK.of_below {w w' : World} (h : Below w.heap.size w w') : RowK w w' := fun b _ _ hb => (h.block b (lt_of_block hb)).trans hb

set_option maxRecDepth 100000 in
set_option maxHeartbeats 16000000 in
theorem seats_any (w : World) (r : RowR) (hok : RowOk r) (fid : FuncId) (cap : List Value) (hpl : plainB Tryz.prog fid = true) (Inv : List (Int × Int) → World → Prop)
  (hin : ∀ l wx, Inv l wx → r.In wx) (hdown : ∀ l wx w', Inv l wx → Below wx.heap.size wx w' → Inv l w')
  (hcb : ∀ l p, (l ++ [p]) <+: seatsS r → ∀ wx, Inv l wx → Calls Tryz.prog fid (Value.int .i64 p.1 :: Value.int .i64 p.2 :: cap).toArray wx fun e w' => e = .returned (.tuple #[]) ∧ Inv (l ++ [p]) w' ∧ RowK wx w') (h0 : Inv [] w) :
  Calls Tryz.prog 18 #[.agg #[.string (bs r.name), .int .i64 r.x, .int .i64 r.y, .int .i64 r.fr, .int .i64 r.to, .int .i64 r.step, .slice r.ma r.mn r.mc, .int .i64 r.at'], .func (.func fid) #[] cap.toArray] w
   fun e w' => e = .returned (.tuple #[]) ∧ Inv (seatsS r) w' := by
 obtain ⟨h1, h2, h3, h4, h5, h6, h7, h8⟩ := hok
 have HIN := Lib.hid hin
 have HDN := Lib.hid hdown
 have HCB := Lib.hid hcb
 have HI := Lib.hid h0
 have HFAR := Lib.hid h7
 have hx0 := h5.1
 have hx1 := h5.2
 have hsp : (spanS r.fr r.to : Int) = r.to - r.fr + 1 := by unfold spanS; omega
 have HSP := Lib.hid hsp
 clear hin hdown hcb h0 h5 h6 h7 hsp
 refine enter_fr (N := 31) [.agg #[.string (bs r.name), .int .i64 r.x, .int .i64 r.y, .int .i64 r.fr, .int .i64 r.to, .int .i64 r.step, .slice r.ma r.mn r.mc, .int .i64 r.at'], .func (.func fid) #[] cap.toArray] (Tryz.func18) rfl Tryz.ntmps18 (by rfl) (fun a hF => ?_);replace hF := hF.kp [0, 1] rfl;refine wp_seq_k (fun K hK => ?_);refine region_seq (l := [0]) (by kernel_rfl) ?_;refine seq_one ?_;revert hF;refine qe1 fun a hF => ?_;refine seq_end ?_;replace hF := hF.kp [1, 2] rfl;refine hK _ _ ?_;clear hK
 have HX : Hid (RowIn (w.alloc (.cells #[.string (bs r.name), .int .i64 r.x, .int .i64 r.y, .int .i64 r.fr, .int .i64 r.to, .int .i64 r.step, .slice r.ma r.mn r.mc, .int .i64 r.at'] 49)) w.heap.size r) := World.alloc_heap_new w _
 have HI1 := Lib.hid (HDN.out _ _ _ HI.out (Joins.below_alloc1 w (.cells #[.string (bs r.name), .int .i64 r.x, .int .i64 r.y, .int .i64 r.fr, .int .i64 r.to, .int .i64 r.step, .slice r.ma r.mn r.mc, .int .i64 r.at'] 49)))
 clear HI
 generalize w.alloc (.cells #[.string (bs r.name), .int .i64 r.x, .int .i64 r.y, .int .i64 r.fr, .int .i64 r.to, .int .i64 r.step, .slice r.ma r.mn r.mc, .int .i64 r.at'] 49) = w1 at *
 obtain ⟨gr, hgr⟩ : ∃ gr, gr = w.heap.size := ⟨_, rfl⟩
 rw [← hgr] at hF HX
 clear hgr
 obtain ⟨c0, c1, c2, c3, c4, c5, c6, c7⟩ := HX.out.cells
 revert hF;refine zrs [4, 4, 2] [1, 2, 4] fun a hF => ?_
 clear c0 c1 c2 c3 c4 c5 c6 c7
 refine wp_block ?_
 refine loop_fr (fun n a' w' => ∃ i : Nat, i + n = spanS r.fr r.to ∧ FrF 31 [] [(1, .func (.func fid) #[] cap.toArray), (2, .pointer (some ⟨gr, 0, none⟩)), (4, .int .i64 (r.fr + i))] a' ∧ Hid (Inv (seatL r i) w') ∧ Hid (RowIn w' gr r)) (spanS r.fr r.to) ⟨0, by omega, by simpa using hF, HI1, HX⟩ ?_
 clear hF HI1 HX
 rintro rk a wr ⟨i, hik, hF, HI, HX⟩ KB hKB
 obtain ⟨c0, c1, c2, c3, c4, c5, c6, c7⟩ := HX.out.cells
 refine wp_seq_k (fun K hK => ?_)
 by_cases hlt : i < spanS r.fr r.to
 rotate_left
 ·
  have hle : decide (r.fr + (i : Int) ≤ r.to) = false := decide_eq_false (by have := HSP.out; omega)
  revert hF;refine zrs [1, 4, 4, 5] [1, 2, 4, 10] fun a hF => ?_
  refine cond_no hF rfl ?_
  refine wp_exit ?_
  (try simp only [then_exit, block_exit, block_norm, goto_norm, ↓reduceIte, Nat.reduceEqDiff]);refine end_fr (fn := Tryz.f18) (rs := []) rfl [] hF trivial ?_
  have hie : i = spanS r.fr r.to := by omega
  refine ⟨rfl, ?_⟩
  rw [← seatL_all, ← hie]
  exact HI.out
 have hle : decide (r.fr + (i : Int) ≤ r.to) = true := decide_eq_true (by have := HSP.out; omega)
 revert hF;refine zrs [1, 4, 4, 5] [1, 2, 4, 10] fun a hF => ?_
 refine cond_yes hF rfl ?_
 refine wp_skip ?_
 refine hK _ _ ?_;clear hK;replace hF := hF.kp [1, 2, 4] rfl
 clear hle
 have hib : (i : Int) ≤ 59 := by have := HSP.out; omega
 refine seq_cut (fun a' w' => FrF 31 [] [(1, .func (.func fid) #[] cap.toArray), (2, .pointer (some ⟨gr, 0, none⟩)), (4, .int .i64 (r.fr + i))] a' ∧ Hid (Inv (seatL r (i + 1)) w') ∧ Hid (RowIn w' gr r)) (fun KC hKC => ?_) ?_
 rotate_left
 ·
  clear hF HI HX c0 c1 c2 c3 c4 c5 c6 c7
  rintro a w' ⟨hF, HI, HX⟩
  have hws : IntKind.i64.wrap (r.fr + (i : Int) + 1) = r.fr + ((i + 1 : Nat) : Int) := by rw [wrap_in (by omega) (by omega)]; omega
  revert hF;refine zrg [1, 4, 2] [1, 2, 4] fun a hF => ?_
  exact hKB (spanS r.fr r.to - (i + 1)) _ _ (by omega) ⟨i + 1, by omega, hF, HI, HX⟩
 clear hKB hik
 have HSN := Lib.hid (seatL_next r i)
 have HPRE : Hid (seatL r (i + 1) <+: seatsS r) := seatL_sub r hlt
 have HPX : Hid (0 ≤ (i : Int) * r.step ∧ r.x + (i : Int) * r.step ≤ 10000) := by
  refine ⟨Int.mul_nonneg (by omega) (by omega), ?_⟩
  by_cases hf : r.fr < r.to
  ·
   obtain ⟨q1, q2⟩ := HFAR.out hf
   have : (i : Int) * r.step ≤ (r.to - r.fr) * r.step := Int.mul_le_mul_of_nonneg_right (by have := HSP.out; omega) (by omega)
   omega
  ·
   have hi0 : i = 0 := by have := HSP.out; omega
   subst hi0
   simp
   exact hx1
 refine wp_block ?_
 refine wp_seq_k (fun K hK => ?_)
 have hfm := run_field_mark
 revert hF;refine zrp [4, 1] [2, 3, 4] fun a hF => ?_;revert hF;refine zos fun K hK => ?_
 refine (mark_any wr r (r.fr + i) (HIN.out _ _ HI.out)).mono ?_
 rintro e w2 ⟨rfl, hb2⟩
 have HI2 := Lib.hid (HDN.out _ _ _ HI.out hb2)
 have HX2 := Lib.hid (HX.out.down hb2)
 clear HI HX hb2 c0 c1 c2 c3 c4 c5 c6 c7
 obtain ⟨c0, c1, c2, c3, c4, c5, c6, c7⟩ := HX2.out.cells
 clear c0 c2 c4 c6 c7
 generalize (markS r.marks (r.fr + i)).kind = mk at *
 by_cases hk : mk = 1
 ·
  have hkb : (mk != 1) = false := by simp [hk]
  have HSN2 : Hid (seatL r (i + 1) = seatL r i) := by rw [HSN.out, if_pos hk, List.append_nil]; rfl
  clear hk
  refine hK _ _ (fun a hF => ?_);clear hK K;revert hF;refine zre 3 [4, 4] [1, 2, 4, 17] fun a hF => ?_;refine hK _ _ ?_;clear hK
  refine cond_no hF rfl ?_
  refine wp_skip ?_
  exact hKC _ _ ⟨hF.sub ⟨rfl, rfl, rfl, trivial⟩, by rw [HSN2.out]; exact HI2, HX2⟩
 have hkb : (mk != 1) = true := by simp [hk]
 have HSN2 : Hid (seatL r (i + 1) = seatL r i ++ [(r.fr + i, r.x + i * r.step)]) := by rw [HSN.out, if_neg hk]; rfl
 clear hk
 have hs1 : IntKind.i64.wrap (r.fr + (i : Int) - r.fr) = (i : Int) := by rw [wrap_in (by omega) (by omega)]; omega
 obtain ⟨p, hp⟩ : ∃ p, (i : Int) * r.step = p := ⟨_, rfl⟩
 have hpx := HPX.out
 rw [hp] at hpx HSN2
 obtain ⟨hp0, hp1⟩ := hpx
 have hs2 : IntKind.i64.wrap ((i : Int) * r.step) = p := by rw [hp]; exact wrap_in (by omega) (by omega)
 have hs3 : IntKind.i64.wrap (r.x + p) = r.x + p := wrap_in (by omega) (by omega)
 have HCC := Lib.hid (HCB.out (seatL r i) (r.fr + i, r.x + p) (by rw [← HSN2.out]; exact HPRE.out) w2 HI2.out)
 clear hp HPX
 refine hK _ _ (fun a hF => ?_);clear hK K;revert hF;refine zre 3 [4, 4] [1, 2, 4, 17] fun a hF => ?_;refine hK _ _ ?_;clear hK
 refine cond_yes hF rfl ?_
 revert hF;refine zrp [1, 1, 4, 4, 1, 4, 4, 5, 4, 4, 5, 5] [12] fun a hF => ?_;refine seq_one ?_;refine op_callv [_, _] _ _ rfl rfl hF rfl rfl (by first | assumption | kernel_rfl) ⟨rfl, rfl, trivial⟩ (fun K hK => ?_);clear hF
 refine HCC.out.mono ?_
 rintro e w3 ⟨rfl, hi3, hrk⟩
 refine hK _ _ (fun a hF => ?_);clear hK K;refine seq_end ?_;replace hF := hF.kp [1, 2, 4] rfl
 refine hKC _ _ ⟨hF, ?_, hrk _ _ _ HX2.out⟩
 rw [HSN2.out]
 exact hi3
end Go.Proofs.YtmcdhggnpfhlmaaGreat

namespace Go.Proofs.YtmcdhggnpfhlmaaGreat
open Go.RowKit Go.IntWalk
set_option linter.unusedSimpArgs false
set_option linter.unusedVariables false

set_option maxRecDepth 100000 in
set_option maxHeartbeats 8000000 in
theorem hit_any (w : World) (b : BoxR) (gx gr : Nat) (x y : Int) (h1 : w.cell? ⟨gx, 0, none⟩ = some (.int .i64 x)) (h2 : w.cell? ⟨gr, 2, none⟩ = some (.int .i64 y)) :
  Calls Tryz.prog 56 #[.agg #[.int .i64 b.x, .int .i64 b.y, .int .i64 b.x2, .int .i64 b.y2], .pointer (some ⟨gx, 0, none⟩), .pointer (some ⟨gr, 0, none⟩)] w fun e w' => e = .returned (.bool (insideB b x y)) ∧ Below w.heap.size w w' := by
 refine enter_fr (N := 10) [.agg #[.int .i64 b.x, .int .i64 b.y, .int .i64 b.x2, .int .i64 b.y2], .pointer (some ⟨gx, 0, none⟩), .pointer (some ⟨gr, 0, none⟩)] (Tryz.func56) rfl Tryz.ntmps56 (by rfl) (fun a hF => ?_);replace hF := hF.kp [0, 1, 2] rfl;refine wp_seq_k (fun K hK => ?_);refine region_seq (l := [0, 1]) (by kernel_rfl) ?_;refine seq_one ?_;revert hF;refine qe1 fun a hF => ?_;revert hF;refine zre 1 [2] [1, 2, 3] fun a hF => ?_;refine hK _ _ ?_;clear hK
 have HB := Lib.hid (Joins.below_alloc1 w (.cells #[.int .i64 b.x, .int .i64 b.y, .int .i64 b.x2, .int .i64 b.y2] 59))
 have HX : Hid (BoxIn (w.alloc (.cells #[.int .i64 b.x, .int .i64 b.y, .int .i64 b.x2, .int .i64 b.y2] 59)) w.heap.size b) := World.alloc_heap_new w _
 have d1 := Below.cell_of HB.out h1
 have d2 := Below.cell_of HB.out h2
 clear h1 h2
 generalize w.alloc (.cells #[.int .i64 b.x, .int .i64 b.y, .int .i64 b.x2, .int .i64 b.y2] 59) = w1 at *
 obtain ⟨g, hg⟩ : ∃ g, g = w.heap.size := ⟨_, rfl⟩
 rw [← hg] at hF HX
 clear hg
 obtain ⟨c0, c1, c2, c3⟩ := HX.out.cells
 refine wp_seq_k (fun K hK => ?_);revert hF;refine zrp [4, 4, 4, 4] [4, 5] fun a hF => ?_;revert hF;refine zos fun K hK => ?_
 refine (inside_any w1 b x y).mono ?_
 rintro e w2 ⟨rfl, hb⟩
 refine hK _ _ (fun a hF => ?_);clear hK K;revert hF;refine zre 5 [2] [4] fun a hF => ?_;refine hK _ _ ?_;clear hK;refine wp_ret ?_;(try simp only [then_ret, block_ret, goto_ret]);revert hF;refine zq ?_
 exact ⟨rfl, HB.out.trans (hb.mono HB.out.size)⟩

set_option maxRecDepth 100000 in
set_option maxHeartbeats 8000000 in
theorem beside_any (w : World) (b : BoxR) (g1 gr g2 : Nat) (x1 x2 y : Int) (h1 : w.cell? ⟨g1, 0, none⟩ = some (.int .i64 x1)) (h2 : w.cell? ⟨gr, 2, none⟩ = some (.int .i64 y)) (h3 : w.cell? ⟨g2, 0, none⟩ = some (.int .i64 x2)) :
  Calls Tryz.prog 59 #[.agg #[.int .i64 b.x, .int .i64 b.y, .int .i64 b.x2, .int .i64 b.y2], .pointer (some ⟨g1, 0, none⟩), .pointer (some ⟨gr, 0, none⟩), .pointer (some ⟨g2, 0, none⟩)] w fun e w' => e = .returned (.bool (insideB b x1 y || insideB b x2 y)) ∧ Below w.heap.size w w' := by
 refine enter_fr (N := 18) [.agg #[.int .i64 b.x, .int .i64 b.y, .int .i64 b.x2, .int .i64 b.y2], .pointer (some ⟨g1, 0, none⟩), .pointer (some ⟨gr, 0, none⟩), .pointer (some ⟨g2, 0, none⟩)] (Tryz.func59) rfl Tryz.ntmps59 (by rfl) (fun a hF => ?_);replace hF := hF.kp [0, 1, 2, 3] rfl;refine wp_seq_k (fun K hK => ?_);refine region_seq (l := [0, 1]) (by kernel_rfl) ?_;refine seq_one ?_;revert hF;refine qe1 fun a hF => ?_;revert hF;refine zre 1 [2] [1, 2, 3, 4] fun a hF => ?_;refine hK _ _ ?_;clear hK
 have HB := Lib.hid (Joins.below_alloc1 w (.cells #[.int .i64 b.x, .int .i64 b.y, .int .i64 b.x2, .int .i64 b.y2] 59))
 have HX : Hid (BoxIn (w.alloc (.cells #[.int .i64 b.x, .int .i64 b.y, .int .i64 b.x2, .int .i64 b.y2] 59)) w.heap.size b) := World.alloc_heap_new w _
 have d1 := Below.cell_of HB.out h1
 have d2 := Below.cell_of HB.out h2
 have d3 := Below.cell_of HB.out h3
 clear h1 h2 h3
 generalize w.alloc (.cells #[.int .i64 b.x, .int .i64 b.y, .int .i64 b.x2, .int .i64 b.y2] 59) = w1 at *
 obtain ⟨g, hg⟩ : ∃ g, g = w.heap.size := ⟨_, rfl⟩
 rw [← hg] at hF HX
 clear hg
 obtain ⟨c0, c1, c2, c3⟩ := HX.out.cells
 refine wp_seq_k (fun K hK => ?_);revert hF;refine zrp [4, 4, 4, 4] [4, 5, 6, 7, 8, 9, 10, 11, 12] fun a hF => ?_;revert hF;refine zos fun K hK => ?_
 refine (inside_any w1 b x1 y).mono ?_
 rintro e w2 ⟨rfl, hb⟩
 have HB2 : Hid (Below w.heap.size w w2) := HB.out.trans (hb.mono HB.out.size)
 have HX2 := Lib.hid (HX.out.down hb)
 have e1 := Below.cell_of hb d1
 have e2 := Below.cell_of hb d2
 have e3 := Below.cell_of hb d3
 clear c0 c1 c2 c3 d1 d2 d3 HB HX hb
 obtain ⟨c0, c1, c2, c3⟩ := HX2.out.cells
 generalize insideB b x1 y = y1 at *
 cases y1
 ·
  refine hK _ _ (fun a hF => ?_);clear hK K;revert hF;refine zrc 5 [1, 4, 4, 4, 4] [10, 11, 12] fun a hF => ?_;revert hF;refine zos fun K hK => ?_
  refine (inside_any w2 b x2 y).mono ?_
  rintro e w3 ⟨rfl, hb⟩
  refine hK _ _ (fun a hF => ?_);clear hK K;revert hF;refine zre 11 [5, 2] [5] fun a hF => ?_;refine hK _ _ ?_;clear hK;refine wp_ret ?_;(try simp only [then_ret, block_ret, goto_ret]);revert hF;refine zq ?_
  exact ⟨rfl, HB2.out.trans (hb.mono HB2.out.size)⟩
 ·
  refine hK _ _ (fun a hF => ?_);clear hK K;revert hF;refine zre 5 [1, 0, 0, 0, 0, 0, 5, 2] [5] fun a hF => ?_;refine hK _ _ ?_;clear hK;refine wp_ret ?_;(try simp only [then_ret, block_ret, goto_ret]);revert hF;refine zq ?_
  exact ⟨rfl, HB2.out⟩

set_option maxRecDepth 100000 in
set_option maxHeartbeats 8000000 in
theorem ameet_any (w : World) (b : BoxR) (ga : Nat) (ar : AreaR) (h : AreaIn w ga ar) :
  Calls Tryz.prog 61 #[.agg #[.int .i64 b.x, .int .i64 b.y, .int .i64 b.x2, .int .i64 b.y2], .pointer (some ⟨ga, 0, none⟩)] w fun e w' => e = .returned (.bool (meetB ar.box b)) ∧ Below w.heap.size w w' := by
 have HA := Lib.hid h
 clear h
 refine enter_fr (N := 8) [.agg #[.int .i64 b.x, .int .i64 b.y, .int .i64 b.x2, .int .i64 b.y2], .pointer (some ⟨ga, 0, none⟩)] (Tryz.func61) rfl Tryz.ntmps61 (by rfl) (fun a hF => ?_);replace hF := hF.kp [0, 1] rfl;refine wp_seq_k (fun K hK => ?_);refine region_seq (l := [0, 1]) (by kernel_rfl) ?_;refine seq_one ?_;revert hF;refine qe1 fun a hF => ?_;revert hF;refine zre 1 [2] [1, 2] fun a hF => ?_;refine hK _ _ ?_;clear hK
 have HB := Lib.hid (Joins.below_alloc1 w (.cells #[.int .i64 b.x, .int .i64 b.y, .int .i64 b.x2, .int .i64 b.y2] 59))
 have HX : Hid (BoxIn (w.alloc (.cells #[.int .i64 b.x, .int .i64 b.y, .int .i64 b.x2, .int .i64 b.y2] 59)) w.heap.size b) := World.alloc_heap_new w _
 have HA1 := Lib.hid (HA.out.down HB.out)
 clear HA
 generalize w.alloc (.cells #[.int .i64 b.x, .int .i64 b.y, .int .i64 b.x2, .int .i64 b.y2] 59) = w1 at *
 obtain ⟨g, hg⟩ : ∃ g, g = w.heap.size := ⟨_, rfl⟩
 rw [← hg] at hF HX
 clear hg
 obtain ⟨c0, c1, c2, c3⟩ := HX.out.cells
 obtain ⟨d0, d1, d2, d3, d4, d5, d6⟩ := HA1.out.cells
 clear d0 d5 d6
 refine wp_seq_k (fun K hK => ?_);revert hF;refine zrp [4, 4, 4] [3, 4] fun a hF => ?_;revert hF;refine zos fun K hK => ?_
 refine (meet_any w1 ar.box b).mono ?_
 rintro e w2 ⟨rfl, hb⟩
 refine hK _ _ (fun a hF => ?_);clear hK K;revert hF;refine zre 4 [2] [3] fun a hF => ?_;refine hK _ _ ?_;clear hK;refine wp_ret ?_;(try simp only [then_ret, block_ret, goto_ret]);revert hF;refine zq ?_
 exact ⟨rfl, HB.out.trans (hb.mono HB.out.size)⟩

theorem open_hit {re : List Bool} {l : LevR} {p : BoxR → Bool} {i : Nat} (hi : i < l.aisles.length) (hr : bx re i = true) (hl : re.length = l.aisles.length) (hp : p l.aisles[i] = true) : openB re l p = true := by
 unfold openB
 rw [List.any_eq_true]
 have hir : i < re.length := by omega
 refine ⟨(l.aisles[i], re[i]), ?_, ?_⟩
 ·
  rw [List.mem_iff_getElem]
  exact ⟨i, by simp; omega, by simp⟩
 ·
  have : re[i] = true := by simpa [bx, List.getD_eq_getElem?_getD, hir] using hr
  simp [this, hp]
theorem open_none {re : List Bool} {l : LevR} {p : BoxR → Bool} (h : ∀ j (hj : j < l.aisles.length), bx re j = true → p l.aisles[j] = false) : openB re l p = false := by
 unfold openB
 rw [List.any_eq_false]
 intro x hx
 obtain ⟨j, hj, rfl⟩ := List.mem_iff_getElem.1 hx
 have hja : j < l.aisles.length := by rw [List.length_zip] at hj; omega
 have hjr : j < re.length := by rw [List.length_zip] at hj; omega
 simp only [List.getElem_zip]
 cases hr : re[j]
 ·
  simp
 ·
  rw [h j hja (by simp [bx, List.getD_eq_getElem?_getD, hjr, hr])]
  simp

set_option maxRecDepth 100000 in
set_option maxHeartbeats 8000000 in
theorem open_any (w : World) (l : LevR) (gl gv gb : Nat) (D : List Bool) (fid : FuncId) (cap : List Value) (p : BoxR → Bool) (hpl : plainB Tryz.prog fid = true) (hL : LevIn w gl l) (hA : Recs BoxE w l.sa l.sn l.aisles) (hsn : l.sn ≤ 9223372036854775807)
  (hv : w.cell? ⟨gv, 0, none⟩ = some (.slice (some ⟨gb, 0, none⟩) l.sn l.sn)) (hD : BoolRow w gb 4 D) (hdl : D.length = l.sn)
  (hf : ∀ wx, Below w.heap.size w wx → ∀ b : BoxR, Calls Tryz.prog fid (.agg #[.int .i64 b.x, .int .i64 b.y, .int .i64 b.x2, .int .i64 b.y2] :: cap).toArray wx fun e w' => e = .returned (.bool (p b)) ∧ Below wx.heap.size wx w') :
  Calls Tryz.prog 54 #[.func (.func fid) #[] cap.toArray, .pointer (some ⟨gl, 0, none⟩), .pointer (some ⟨gv, 0, none⟩)] w fun e w' => e = .returned (.bool (openB D l p)) ∧ Below w.heap.size w w' := by
 have HL := Lib.hid hL
 have HA := Lib.hid hA
 have HV := Lib.hid hv
 have HD := Lib.hid hD
 have HF := Lib.hid hf
 have HSL := Lib.hid hA.1
 have HDL := Lib.hid hdl
 have c4 : w.cell? ⟨gl, 4, none⟩ = some (.slice l.sa l.sn l.sc) := boxed_cell (j := 4) hL rfl
 clear hL hA hv hD hf hdl
 refine enter_fr (N := 25) [.func (.func fid) #[] cap.toArray, .pointer (some ⟨gl, 0, none⟩), .pointer (some ⟨gv, 0, none⟩)] (Tryz.func54) rfl Tryz.ntmps54 (by rfl) (fun a hF => ?_);replace hF := hF.kp [0, 1, 2] rfl;revert hF;refine zrs [2] [0, 1, 2] fun a hF => ?_;refine wp_seq_k (fun KA hKA => ?_);revert hF;refine zrs [4, 4, 4, 1] [0, 2, 8, 9, 10] fun a hF => ?_
 refine wp_block ?_
 refine loop_fr (fun n a' w' => ∃ i : Nat, i + n = l.sn ∧ FrF 25 [] [(0, .func (.func fid) #[] cap.toArray), (2, .pointer (some ⟨gv, 0, none⟩)), (8, .slice l.sa l.sn l.sc), (9, .int .i64 l.sn), (10, .int .i64 i)] a' ∧ Hid (Below w.heap.size w w') ∧ Hid (∀ j (hj : j < l.aisles.length), j < i → bx D j = true → p l.aisles[j] = false)) l.sn ⟨0, by omega, hF, Below.refl _ _, fun j _ hj => absurd hj (Nat.not_lt_zero _)⟩ ?_
 clear hF c4
 rintro rk a wr ⟨i, hik, hF, HB, HP⟩ KB hKB
 by_cases hlt : i < l.sn
 rotate_left
 ·
  revert hF;refine zrs [5] [0, 2, 8, 9, 10, 11] fun a hF => ?_;refine wp_seq_k (fun K hK => ?_)
  refine cond_no hF rfl ?_
  refine wp_exit ?_
  refine hKA _ _ ?_;clear hKA;revert hF;refine zrs [2] [4] fun a hF => ?_;refine wp_ret ?_;(try simp only [then_ret, block_ret, goto_ret]);revert hF;refine zq ?_
  refine ⟨?_, HB.out⟩
  rw [open_none fun j hj hr => HP.out j hj (by have := HSL.out; omega) hr]
  rfl
 revert hF;refine zrs [5] [0, 2, 8, 9, 10, 11] fun a hF => ?_;refine wp_seq_k (fun K hK => ?_)
 refine cond_yes hF rfl ?_
 refine wp_skip ?_
 refine hK _ _ ?_;clear hK;replace hF := hF.kp [0, 2, 8, 9, 10] rfl
 clear hKA
 have hil : i < l.aisles.length := by rw [HSL.out]; exact hlt
 have hid : i < D.length := by rw [HDL.out]; exact hlt
 have hii : (i : Int) < l.sn := by omega
 obtain ⟨b0, o, hsa, d0, d1, d2, d3⟩ := box_at (HA.out.below HB.out) i hlt hil
 have HHIT := Lib.hid (fun h1 h2 => open_hit (re := D) (p := p) hil h1 (by rw [HDL.out, HSL.out]) h2)
 have HPN : Hid ((bx D i = true → p l.aisles[i] = false) → ∀ j (hj : j < l.aisles.length), j < i + 1 → bx D j = true → p l.aisles[j] = false) := fun h j hj hji hr => by
  by_cases e : j = i
  ·
   subst e; exact h hr
  ·
   exact HP.out j hj (by omega) hr
 generalize l.aisles[i] = b at *
 refine seq_cut (fun a' w' => FrF 25 [] [(0, .func (.func fid) #[] cap.toArray), (2, .pointer (some ⟨gv, 0, none⟩)), (8, .slice l.sa l.sn l.sc), (9, .int .i64 l.sn), (10, .int .i64 i)] a' ∧ Hid (Below w.heap.size w w') ∧ Hid (∀ j (hj : j < l.aisles.length), j < i + 1 → bx D j = true → p l.aisles[j] = false)) (fun KC hKC => ?_) ?_
 rotate_left
 ·
  clear hF HB HP HPN d0 d1 d2 d3 hsa
  rintro a w' ⟨hF, HB, HP⟩
  have hws : IntKind.i64.wrap ((i : Int) + 1) = ((i + 1 : Nat) : Int) := wrap_succ (by omega)
  revert hF;refine zrg [4, 1] [0, 2, 8, 9, 10] fun a hF => ?_
  exact hKB (l.sn - (i + 1)) _ _ (by omega) ⟨i + 1, by omega, hF, HB, HP⟩
 clear hKB hik
 refine wp_block ?_
 refine wp_seq_k (fun K hK => ?_);revert hF;refine zrp [1, 5, 4] [3, 4, 5] fun a hF => ?_;refine seq_one ?_;revert hF;refine qe0 fun a hF => ?_;revert hF;refine zrc 4 [2] [5] fun a hF => ?_;refine seq_one ?_;revert hF;refine qu2 fun a hF => ?_;refine seq_end ?_;replace hF := hF.kp [0, 2, 5, 6, 8, 9, 10] rfl;refine hK _ _ ?_;clear hK
 have HX : Hid (BoxIn (wr.alloc (.cells #[.int .i64 b.x, .int .i64 b.y, .int .i64 b.x2, .int .i64 b.y2] 59)) wr.heap.size b) := World.alloc_heap_new wr _
 have HBa := Lib.hid (Joins.below_alloc1 wr (.cells #[.int .i64 b.x, .int .i64 b.y, .int .i64 b.x2, .int .i64 b.y2] 59))
 have HB2 : Hid (Below w.heap.size w (wr.alloc (.cells #[.int .i64 b.x, .int .i64 b.y, .int .i64 b.x2, .int .i64 b.y2] 59))) := HB.out.trans (HBa.out.mono HB.out.size)
 clear HB HBa d0 d1 d2 d3 hsa
 generalize wr.alloc (.cells #[.int .i64 b.x, .int .i64 b.y, .int .i64 b.x2, .int .i64 b.y2] 59) = w2 at *
 generalize wr.heap.size = gx at *
 obtain ⟨c0, c1, c2, c3⟩ := HX.out.cells
 have cv : w2.cell? ⟨gv, 0, none⟩ = some (.slice (some ⟨gb, 0, none⟩) l.sn l.sn) := Below.cell_of HB2.out HV.out
 have cd := Below.cell_of HB2.out (HD.out.cell i hid)
 have HFB := Lib.hid (HF.out w2 HB2.out b)
 obtain ⟨rb, hrb⟩ : ∃ rb, bx D i = rb := ⟨_, rfl⟩
 rw [hrb] at cd HHIT HPN
 clear hrb
 refine wp_seq_k (fun K hK => ?_)
 cases rb
 ·
  revert hF;refine zrg [4, 1, 5, 4, 1, 0, 0, 0, 5] [0, 2, 8, 9, 10, 23] fun a hF => ?_;refine hK _ _ ?_;clear hK
  refine cond_no hF rfl ?_
  refine wp_skip ?_
  exact hKC _ _ ⟨hF.sub ⟨rfl, rfl, rfl, rfl, rfl, trivial⟩, HB2, HPN.out (fun h => by cases h)⟩
 revert hF;refine zrp [4, 1, 5, 4, 1, 1, 4] [7, 8] fun a hF => ?_;refine seq_one ?_;refine op_callv [_] _ _ rfl rfl hF rfl rfl (by first | assumption | kernel_rfl) ⟨rfl, trivial⟩ (fun K hK => ?_);clear hF
 refine HFB.out.mono ?_
 rintro e w3 ⟨rfl, hb3⟩
 have HB3 : Hid (Below w.heap.size w w3) := HB2.out.trans (hb3.mono HB2.out.size)
 clear HB2 hb3 c0 c1 c2 c3 cv cd HFB HX
 obtain ⟨pb, hpb⟩ : ∃ pb, p b = pb := ⟨_, rfl⟩
 have HPB := Lib.hid hpb
 rw [hpb]
 clear hpb
 cases pb
 ·
  refine hK _ _ (fun a hF => ?_);clear hK K;revert hF;refine zre 8 [5] [0, 2, 8, 9, 10, 23] fun a hF => ?_;refine hK _ _ ?_;clear hK
  refine cond_no hF rfl ?_
  refine wp_skip ?_
  exact hKC _ _ ⟨hF.sub ⟨rfl, rfl, rfl, rfl, rfl, trivial⟩, HB3, HPN.out (fun _ => HPB.out)⟩
 ·
  refine hK _ _ (fun a hF => ?_);clear hK K;revert hF;refine zre 8 [5] [0, 2, 8, 9, 10, 23] fun a hF => ?_;refine hK _ _ ?_;clear hK
  refine cond_yes hF rfl ?_
  revert hF;refine zrs [2] [4] fun a hF => ?_;refine wp_ret ?_;(try simp only [then_ret, block_ret, goto_ret]);revert hF;refine zq ?_
  refine ⟨?_, HB3.out⟩
  rw [HHIT.out rfl HPB.out]
  rfl
end Go.Proofs.YtmcdhggnpfhlmaaGreat

namespace Go.Proofs.YtmcdhggnpfhlmaaGreat
open Go.RowKit Go.IntWalk
set_option linter.unusedSimpArgs false
set_option linter.unusedVariables false

set_option maxRecDepth 100000 in
set_option maxHeartbeats 8000000 in
theorem inarea_any (w : World) (ar : AreaR) (rw' : RowR) (gi ga gr : Nat) (s x : Int) (b0 : Bool) (hi : w.heap[gi]? = some (.cells #[.bool b0] 4 (0, 0))) (ha : AreaIn w ga ar) (hr : RowIn w gr rw') :
  Calls Tryz.prog 60 #[.int .i64 s, .int .i64 x, .pointer (some ⟨gi, 0, none⟩), .pointer (some ⟨ga, 0, none⟩), .pointer (some ⟨gr, 0, none⟩)] w fun e w' => e = .returned (.tuple #[]) ∧ w'.heap[gi]? = some (.cells #[.bool (b0 || insideB ar.box x rw'.y)] 4 (0, 0)) ∧ Upd (fun i => i = gi) w w' := by
 have HI := Lib.hid hi
 have c0 : w.cell? ⟨gi, 0, none⟩ = some (.bool b0) := boxed_cell (j := 0) hi rfl
 have f0 := free_var (o := 0) hi
 obtain ⟨_, d1, d2, d3, d4, _, _⟩ := ha.cells
 obtain ⟨_, _, e2, _, _, _, _, _⟩ := hr.cells
 clear hi ha hr
 refine enter_fr (N := 16) [.int .i64 s, .int .i64 x, .pointer (some ⟨gi, 0, none⟩), .pointer (some ⟨ga, 0, none⟩), .pointer (some ⟨gr, 0, none⟩)] (Tryz.func60) rfl Tryz.ntmps60 (by rfl) (fun a hF => ?_);replace hF := hF.kp [1, 2, 3, 4] rfl
 cases b0
 ·
  revert hF;refine zrp [4, 1, 4, 4, 1, 4, 4] [7, 8, 9] fun a hF => ?_;revert hF;refine zos fun K hK => ?_
  refine (inside_any w ar.box x rw'.y).mono ?_
  rintro e w2 ⟨rfl, hb⟩
  have HI2 : Hid (w2.heap[gi]? = some (.cells #[.bool false] 4 (0, 0))) := (hb.block gi (lt_of_block HI.out)).trans HI.out
  have f1 := free_var (o := 0) HI2.out
  have c1 : w2.cell? ⟨gi, 0, none⟩ = some (.bool false) := boxed_cell (j := 0) HI2.out rfl
  have HUB := Lib.hid (Upd.of_below (S := fun i => i = gi) hb)
  clear c0 f0 d1 d2 d3 d4 e2 hb HI
  obtain ⟨y, hy⟩ : ∃ y, insideB ar.box x rw'.y = y := ⟨_, rfl⟩
  have HY := Lib.hid hy
  rw [hy]
  clear hy
  refine hK _ _ (fun a hF => ?_);clear hK K;revert hF;refine zrc 8 [5] [9] fun a hF => ?_;refine seq_one ?_;revert hF;refine qu2 fun a hF => ?_;refine seq_end ?_;replace hF := hF.kp [] rfl;(try simp only [then_exit, block_exit, block_norm, goto_norm, ↓reduceIte, Nat.reduceEqDiff]);refine end_fr (fn := Tryz.f60) (rs := []) rfl [] hF trivial ?_
  exact ⟨rfl, by rw [HY.out]; simpa using set_var (v := .bool y) HI2.out, HUB.out.trans (Upd.setCell _ gi 0 _ rfl)⟩
 ·
  revert hF;refine zrp [4, 1, 0, 0, 0, 0, 0, 0, 5] [9] fun a hF => ?_;refine seq_one ?_;revert hF;refine qu2 fun a hF => ?_;refine seq_end ?_;replace hF := hF.kp [] rfl;(try simp only [then_exit, block_exit, block_norm, goto_norm, ↓reduceIte, Nat.reduceEqDiff]);refine end_fr (fn := Tryz.f60) (rs := []) rfl [] hF trivial ?_
  exact ⟨rfl, by simpa using set_var (v := .bool true) HI.out, Upd.setCell _ gi 0 _ rfl⟩

theorem RowK.of_upd {g : Nat} {w w' : World} {A : Array Value} {T : TypeId} {z : Nat × Nat} (h : w.heap[g]? = some (.cells A T z)) (hT : 49 ≠ T) (hu : Upd (fun i => i = g) w w') : RowK w w' := fun _ _ _ hb => (hu.block _ (lt_of_block hb) (type_ne hb h hT)).trans hb

/-- A row's places in an area: whether one lies there. -/
theorem rowinarea_any (w0 w : World) (ar : AreaR) (rw' : RowR) (hok : RowOk rw') (gi ga gr : Nat) (hb0 : Below w0.heap.size w0 w) (hin : rw'.In w0) (hgi : w0.heap.size ≤ gi) (hi : w.heap[gi]? = some (.cells #[.bool false] 4 (0, 0))) (ha : AreaIn w ga ar) (hr : RowIn w gr rw') :
  Calls Tryz.prog 18 #[.agg #[.string (bs rw'.name), .int .i64 rw'.x, .int .i64 rw'.y, .int .i64 rw'.fr, .int .i64 rw'.to, .int .i64 rw'.step, .slice rw'.ma rw'.mn rw'.mc, .int .i64 rw'.at'], .func (.func 60) #[] #[.pointer (some ⟨gi, 0, none⟩), .pointer (some ⟨ga, 0, none⟩), .pointer (some ⟨gr, 0, none⟩)]] w
   fun e w' => e = .returned (.tuple #[]) ∧ w'.heap[gi]? = some (.cells #[.bool ((seatsS rw').any fun p => insideB ar.box p.2 rw'.y)] 4 (0, 0)) ∧ Upd (fun i => i = gi) w w' := by
 refine seats_any w rw' hok 60 [.pointer (some ⟨gi, 0, none⟩), .pointer (some ⟨ga, 0, none⟩), .pointer (some ⟨gr, 0, none⟩)] (by kernel_rfl)
  (fun l wx => wx.heap[gi]? = some (.cells #[.bool (l.any fun p => insideB ar.box p.2 rw'.y)] 4 (0, 0)) ∧ Upd (fun i => i = gi) w wx) ?_ ?_ ?_ ⟨hi, Upd.refl _ _⟩
 ·
  rintro l wx ⟨_, hu⟩
  exact hin.below (Upd.below hb0 hb0.size hu (fun i e => by rw [e]; exact hgi))
 ·
  rintro l wx w' ⟨h1, hu⟩ hb
  exact ⟨(hb.block gi (lt_of_block h1)).trans h1, hu.trans (Upd.of_below hb)⟩
 ·
  rintro l p _ wx ⟨h1, hu⟩
  have ha1 : AreaIn wx ga ar := (hu.block ga (lt_of_block ha) (type_ne ha hi (by decide))).trans ha
  have hr1 : RowIn wx gr rw' := (hu.block gr (lt_of_block hr) (type_ne hr hi (by decide))).trans hr
  refine (inarea_any wx ar rw' gi ga gr p.1 p.2 _ h1 ha1 hr1).mono ?_
  rintro e w' ⟨rfl, h2, hu2⟩
  refine ⟨rfl, ⟨?_, hu.trans hu2⟩, RowK.of_upd h1 (by decide) hu2⟩
  rw [h2, List.any_append]
  simp
end Go.Proofs.YtmcdhggnpfhlmaaGreat

namespace Go.Proofs.YtmcdhggnpfhlmaaGreat
open Go.RowKit Go.IntWalk
set_option linter.unusedSimpArgs false
set_option linter.unusedVariables false

set_option maxRecDepth 100000 in
set_option maxHeartbeats 8000000 in
theorem count1_any (w : World) (g : Nat) (v s x : Int) (h : w.heap[g]? = some (.cells #[.int .i64 v] 3 (0, 0))) (h0 : 0 ≤ v) (h1 : v < 9223372036854775807) :
  Calls Tryz.prog 19 #[.int .i64 s, .int .i64 x, .pointer (some ⟨g, 0, none⟩)] w fun e w' => e = .returned (.tuple #[]) ∧ w'.heap[g]? = some (.cells #[.int .i64 (v + 1)] 3 (0, 0)) ∧ Upd (fun i => i = g) w w' := by
 have HN := Lib.hid h
 have c0 : w.cell? ⟨g, 0, none⟩ = some (.int .i64 v) := boxed_cell (j := 0) HN.out rfl
 have c1 := free_var (o := 0) HN.out
 have hws : IntKind.i64.wrap (v + 1) = v + 1 := wrap_in (by omega) (by omega)
 clear h
 refine enter_fr (N := 7) [.int .i64 s, .int .i64 x, .pointer (some ⟨g, 0, none⟩)] (Tryz.func19) rfl Tryz.ntmps19 (by rfl) (fun a hF => ?_);replace hF := hF.kp [2] rfl;revert hF;refine zrp [4, 4] [2] fun a hF => ?_;refine seq_one ?_;revert hF;refine qu2 fun a hF => ?_;refine seq_end ?_;replace hF := hF.kp [] rfl;(try simp only [then_exit, block_exit, block_norm, goto_norm, ↓reduceIte, Nat.reduceEqDiff]);refine end_fr (fn := Tryz.f19) (rs := []) rfl [] hF trivial ?_
 exact ⟨rfl, set_var (v := .int .i64 (v + 1)) HN.out, Upd.setCell _ g 0 _ rfl⟩

/-- seats with it. -/
theorem count_any (w0 w : World) (rw' : RowR) (hok : RowOk rw') (g : Nat) (v : Int) (hb0 : Below w0.heap.size w0 w) (hin : rw'.In w0) (hgi : w0.heap.size ≤ g) (h : w.heap[g]? = some (.cells #[.int .i64 v] 3 (0, 0))) (h0 : 0 ≤ v) (h1 : v + (seatsS rw').length < 9223372036854775807) :
  Calls Tryz.prog 18 #[.agg #[.string (bs rw'.name), .int .i64 rw'.x, .int .i64 rw'.y, .int .i64 rw'.fr, .int .i64 rw'.to, .int .i64 rw'.step, .slice rw'.ma rw'.mn rw'.mc, .int .i64 rw'.at'], .func (.func 19) #[] #[.pointer (some ⟨g, 0, none⟩)]] w
   fun e w' => e = .returned (.tuple #[]) ∧ w'.heap[g]? = some (.cells #[.int .i64 (v + (seatsS rw').length)] 3 (0, 0)) ∧ Upd (fun i => i = g) w w' := by
 refine seats_any w rw' hok 19 [.pointer (some ⟨g, 0, none⟩)] (by kernel_rfl)
  (fun l wx => wx.heap[g]? = some (.cells #[.int .i64 (v + l.length)] 3 (0, 0)) ∧ Upd (fun i => i = g) w wx) ?_ ?_ ?_ ⟨by simpa using h, Upd.refl _ _⟩
 ·
  rintro l wx ⟨_, hu⟩
  exact hin.below (Upd.below hb0 hb0.size hu (fun i e => by rw [e]; exact hgi))
 ·
  rintro l wx w' ⟨h1, hu⟩ hb
  exact ⟨(hb.block g (lt_of_block h1)).trans h1, hu.trans (Upd.of_below hb)⟩
 ·
  rintro l p hp wx ⟨h2, hu⟩
  have hl := hp.length_le
  rw [List.length_append] at hl
  simp at hl
  refine (count1_any wx g _ p.1 p.2 h2 (by omega) (by omega)).mono ?_
  rintro e w' ⟨rfl, h3, hu2⟩
  refine ⟨rfl, ⟨?_, hu.trans hu2⟩, RowK.of_upd h2 (by decide) hu2⟩
  rw [h3, List.length_append]
  simp [Int.add_assoc]
end Go.Proofs.YtmcdhggnpfhlmaaGreat
