/- hall: sight's small functions; hall: sight.Crosses. -/
import Derived.Test.YtmcdhggnpfhlmaaGreatQHMR05
import Derived.Test.YtmcdhggnpfhlmaaGreatQHMR11

set_option linter.unusedVariables false
set_option linter.unusedSimpArgs false
namespace Go.Proofs.YtmcdhggnpfhlmaaGreat
open Go.RowKit Go.IntWalk
set_option linter.unusedSimpArgs false
set_option linter.unusedVariables false

theorem mul_bd {x y : Int} (h1 : -10000 ≤ x) (h2 : x ≤ 10000) (h3 : -10000 ≤ y) (h4 : y ≤ 10000) : -100000000 ≤ x * y ∧ x * y ≤ 100000000 := by
 have hx : x.natAbs ≤ 10000 := by omega
 have hy : y.natAbs ≤ 10000 := by omega
 have := Nat.mul_le_mul hx hy
 rw [← Int.natAbs_mul] at this
 omega

set_option maxRecDepth 100000 in
set_option maxHeartbeats 8000000 in
theorem tick_any (w : World) (g : Nat) (v : Int) (b : Bool) (h : w.heap[g]? = some (.cells #[.int .i64 v] 3 (0, 0))) (h0 : 0 ≤ v) (h1 : v < 9223372036854775807) :
  Calls Tryz.prog 81 #[.bool b, .pointer (some ⟨g, 0, none⟩)] w fun e w' => e = .returned (.tuple #[]) ∧ w'.heap[g]? = some (.cells #[.int .i64 (v + if b then 1 else 0)] 3 (0, 0)) ∧ Upd (fun i => i = g) w w' := by
 have HN := Lib.hid h
 have c0 : w.cell? ⟨g, 0, none⟩ = some (.int .i64 v) := boxed_cell (j := 0) HN.out rfl
 have c1 := free_var (o := 0) HN.out
 have hws : IntKind.i64.wrap (v + 1) = v + 1 := wrap_in (by omega) (by omega)
 clear h
 refine enter_fr (N := 6) [.bool b, .pointer (some ⟨g, 0, none⟩)] (Tryz.func81) rfl Tryz.ntmps81 (by rfl) (fun a hF => ?_);replace hF := hF.kp [0, 1] rfl;revert hF;refine zrs [1] [1, 3] fun a hF => ?_
 cases b
 ·
  refine cond_no hF rfl ?_
  refine wp_skip ?_
  (try simp only [then_exit, block_exit, block_norm, goto_norm, ↓reduceIte, Nat.reduceEqDiff]);refine end_fr (fn := Tryz.f81) (rs := []) rfl [] hF trivial ?_
  exact ⟨rfl, by simpa using HN.out, Upd.refl _ _⟩
 ·
  refine cond_yes hF rfl ?_
  revert hF;refine zrp [4, 4] [2] fun a hF => ?_;refine seq_one ?_;revert hF;refine qu2 fun a hF => ?_;refine seq_end ?_;replace hF := hF.kp [] rfl;(try simp only [then_exit, block_exit, block_norm, goto_norm, ↓reduceIte, Nat.reduceEqDiff]);refine end_fr (fn := Tryz.f81) (rs := []) rfl [] hF trivial ?_
  exact ⟨rfl, set_var (v := .int .i64 (v + 1)) HN.out, Upd.setCell _ g 0 _ rfl⟩

set_option maxRecDepth 100000 in
set_option maxHeartbeats 8000000 in
theorem scoord_any (w : World) (ra : Option Addr) (n c : Nat) (xs : List Int) (h : Recs IntE w ra n xs) (hn : n ≤ 9223372036854775807) :
  Calls Tryz.prog 80 #[.slice ra n c] w fun e w' => e = .returned (.bool (xs.all coordB)) ∧ Below w.heap.size w w' := by
 have HR := Lib.hid h
 have HLN := Lib.hid h.1
 clear h
 refine enter_fr (N := 18) [.slice ra n c] (Tryz.func80) rfl Tryz.ntmps80 (by rfl) (fun a hF => ?_);replace hF := hF.kp [0] rfl;revert hF;refine zrs [2] [0] fun a hF => ?_;refine wp_seq_k (fun KA hKA => ?_);revert hF;refine zrs [1, 4, 1] [5, 6, 7] fun a hF => ?_
 refine wp_block ?_
 refine loop_fr (fun m a' w' => ∃ i : Nat, i + m = n ∧ FrF 18 [] [(5, .slice ra n c), (6, .int .i64 n), (7, .int .i64 i)] a' ∧ w' = w ∧ Hid (∀ j (hj : j < xs.length), j < i → coordB xs[j] = true)) n ⟨0, by omega, hF, rfl, fun j _ hj => absurd hj (Nat.not_lt_zero _)⟩ ?_
 clear hF
 rintro rk a wr ⟨i, hik, hF, rfl, HP⟩ KB hKB
 by_cases hlt : i < n
 rotate_left
 ·
  revert hF;refine zrs [5] [5, 6, 7, 8] fun a hF => ?_;refine wp_seq_k (fun K hK => ?_)
  refine cond_no hF rfl ?_
  refine wp_exit ?_
  refine hKA _ _ ?_;clear hKA;revert hF;refine zrs [2] [2] fun a hF => ?_;refine wp_ret ?_;(try simp only [then_ret, block_ret, goto_ret]);revert hF;refine zq ?_
  have : xs.all coordB = true := by
   rw [List.all_eq_true]
   intro x hx
   obtain ⟨j, hj, rfl⟩ := List.mem_iff_getElem.1 hx
   exact HP.out j hj (by have := HLN.out; omega)
  exact ⟨by rw [this]; rfl, Below.refl _ _⟩
 revert hF;refine zrs [5] [5, 6, 7, 8] fun a hF => ?_;refine wp_seq_k (fun K hK => ?_)
 refine cond_yes hF rfl ?_
 refine wp_skip ?_
 refine hK _ _ ?_;clear hK;replace hF := hF.kp [5, 6, 7] rfl
 clear hKA
 have hil : i < xs.length := by rw [HLN.out]; exact hlt
 have hii : (i : Int) < n := by omega
 obtain ⟨b0, o, hra, d0⟩ := int_at HR.out i hlt hil
 have HNO : Hid (coordB xs[i] = false → xs.all coordB = false) := fun h => by
  rw [List.all_eq_false]
  exact ⟨xs[i], List.getElem_mem hil, by simp [h]⟩
 have HPN : Hid (coordB xs[i] = true → ∀ j (hj : j < xs.length), j < i + 1 → coordB xs[j] = true) := fun h j hj hji => by
  by_cases e : j = i
  ·
   subst e; exact h
  ·
   exact HP.out j hj (by omega)
 generalize xs[i] = x at *
 refine seq_cut (fun a' w' => FrF 18 [] [(5, .slice ra n c), (6, .int .i64 n), (7, .int .i64 i)] a' ∧ w' = wr ∧ Hid (∀ j (hj : j < xs.length), j < i + 1 → coordB xs[j] = true)) (fun KC hKC => ?_) ?_
 rotate_left
 ·
  clear hF HP HPN d0 hra
  rintro a w' ⟨hF, rfl, HP⟩
  have hws : IntKind.i64.wrap ((i : Int) + 1) = ((i + 1 : Nat) : Int) := wrap_succ (by omega)
  revert hF;refine zrg [4, 1] [5, 6, 7] fun a hF => ?_
  exact hKB (n - (i + 1)) _ _ (by omega) ⟨i + 1, by omega, hF, rfl, HP⟩
 clear hKB hik
 refine wp_block ?_
 revert hF;refine zrs [5, 4, 2] [4, 5, 6, 7] fun a hF => ?_
 clear d0 hra
 by_cases h1 : x < 0
 ·
  have hb1 : decide (x < 0) = true := decide_eq_true h1
  revert hF;refine zrs [1, 4, 1, 0, 0, 5] [5, 6, 7, 16] fun a hF => ?_
  refine cond_yes hF rfl ?_
  revert hF;refine zrs [2] [2] fun a hF => ?_;refine wp_ret ?_;(try simp only [then_ret, block_ret, goto_ret]);revert hF;refine zq ?_
  exact ⟨by rw [HNO.out (by simp [coordB]; omega)]; rfl, Below.refl _ _⟩
 have hb1 : decide (x < 0) = false := decide_eq_false h1
 by_cases h2 : 10000 < x
 ·
  have hb2 : decide (10000 < x) = true := decide_eq_true h2
  revert hF;refine zrs [1, 4, 1, 1, 4, 5] [5, 6, 7, 16] fun a hF => ?_
  refine cond_yes hF rfl ?_
  revert hF;refine zrs [2] [2] fun a hF => ?_;refine wp_ret ?_;(try simp only [then_ret, block_ret, goto_ret]);revert hF;refine zq ?_
  exact ⟨by rw [HNO.out (by simp [coordB]; omega)]; rfl, Below.refl _ _⟩
 have hb2 : decide (10000 < x) = false := decide_eq_false h2
 revert hF;refine zrs [1, 4, 1, 1, 4, 5] [5, 6, 7, 16] fun a hF => ?_
 refine cond_no hF rfl ?_
 refine wp_skip ?_
 exact hKC _ _ ⟨hF.sub ⟨rfl, rfl, rfl, trivial⟩, rfl, HPN.out (by simp [coordB]; omega)⟩

def PntIn (w : World) (g : Nat) (b : PntR) : Prop := w.heap[g]? = some (.cells #[.int .i64 b.x, .int .i64 b.y] 23 (0, 0))
theorem PntIn.cells {w : World} {g : Nat} {b : PntR} (h : PntIn w g b) : w.cell? ⟨g, 0, none⟩ = some (.int .i64 b.x) ∧ w.cell? ⟨g, 1, none⟩ = some (.int .i64 b.y) :=
 ⟨boxed_cell (j := 0) h rfl, boxed_cell (j := 1) h rfl⟩
theorem PntIn.down {w w' : World} {g : Nat} {b : PntR} (h : PntIn w g b) (hb : Below w.heap.size w w') : PntIn w' g b := (hb.block g (lt_of_block h)).trans h
/-- On the plan. -/
def PntOk (p : PntR) : Prop := 0 ≤ p.x ∧ p.x ≤ 10000 ∧ 0 ≤ p.y ∧ p.y ≤ 10000

set_option maxRecDepth 100000 in
set_option maxHeartbeats 8000000 in
theorem side_any (w : World) (pa pb pc : PntR) (ha : PntOk pa) (hb : PntOk pb) (hc : PntOk pc) :
  Calls Tryz.prog 101 #[.agg #[.int .i64 pa.x, .int .i64 pa.y], .agg #[.int .i64 pb.x, .int .i64 pb.y], .agg #[.int .i64 pc.x, .int .i64 pc.y]] w fun e w' => e = .returned (.int .i64 (sideS pa pb pc)) ∧ Below w.heap.size w w' := by
 obtain ⟨a1, a2, a3, a4⟩ := ha
 obtain ⟨b1, b2, b3, b4⟩ := hb
 obtain ⟨c1, c2, c3, c4⟩ := hc
 have hw1 : IntKind.i64.wrap (pb.x - pa.x) = pb.x - pa.x := wrap_in (by omega) (by omega)
 have hw2 : IntKind.i64.wrap (pc.y - pa.y) = pc.y - pa.y := wrap_in (by omega) (by omega)
 have hw3 : IntKind.i64.wrap (pb.y - pa.y) = pb.y - pa.y := wrap_in (by omega) (by omega)
 have hw4 : IntKind.i64.wrap (pc.x - pa.x) = pc.x - pa.x := wrap_in (by omega) (by omega)
 obtain ⟨m1, m2⟩ := mul_bd (x := pb.x - pa.x) (y := pc.y - pa.y) (by omega) (by omega) (by omega) (by omega)
 obtain ⟨m3, m4⟩ := mul_bd (x := pb.y - pa.y) (y := pc.x - pa.x) (by omega) (by omega) (by omega) (by omega)
 have hw5 : IntKind.i64.wrap ((pb.x - pa.x) * (pc.y - pa.y)) = (pb.x - pa.x) * (pc.y - pa.y) := wrap_in (by omega) (by omega)
 have hw6 : IntKind.i64.wrap ((pb.y - pa.y) * (pc.x - pa.x)) = (pb.y - pa.y) * (pc.x - pa.x) := wrap_in (by omega) (by omega)
 have hw7 : IntKind.i64.wrap ((pb.x - pa.x) * (pc.y - pa.y) - (pb.y - pa.y) * (pc.x - pa.x)) = (pb.x - pa.x) * (pc.y - pa.y) - (pb.y - pa.y) * (pc.x - pa.x) := wrap_in (by omega) (by omega)
 clear a1 a2 a3 a4 b1 b2 b3 b4 c1 c2 c3 c4 m1 m2 m3 m4
 unfold sideS
 refine enter_fr (N := 30) [.agg #[.int .i64 pa.x, .int .i64 pa.y], .agg #[.int .i64 pb.x, .int .i64 pb.y], .agg #[.int .i64 pc.x, .int .i64 pc.y]] (Tryz.func101) rfl Tryz.ntmps101 (by rfl) (fun a hF => ?_);replace hF := hF.kp [0, 1, 2] rfl;refine wp_seq_k (fun K hK => ?_);refine region_seq (l := [0, 1, 2, 3]) (by kernel_rfl) ?_;refine seq_one ?_;revert hF;refine qe1 fun a hF => ?_;refine seq_one ?_;revert hF;refine qe1 fun a hF => ?_
 have HB1 := Lib.hid (Joins.below_alloc1 w (.cells #[.int .i64 pa.x, .int .i64 pa.y] 23))
 have HX1 : Hid (PntIn (w.alloc (.cells #[.int .i64 pa.x, .int .i64 pa.y] 23)) w.heap.size pa) := World.alloc_heap_new w _
 have hs1 : (w.alloc (.cells #[.int .i64 pa.x, .int .i64 pa.y] 23)).heap.size = w.heap.size + 1 := by simp only [World.alloc, Array.size_push]
 generalize w.alloc (.cells #[.int .i64 pa.x, .int .i64 pa.y] 23) = w1 at *
 refine seq_one ?_;revert hF;refine qe1 fun a hF => ?_
 have HB2 := Lib.hid (Joins.below_alloc1 w1 (.cells #[.int .i64 pb.x, .int .i64 pb.y] 23))
 have HX2 : Hid (PntIn (w1.alloc (.cells #[.int .i64 pb.x, .int .i64 pb.y] 23)) w1.heap.size pb) := World.alloc_heap_new w1 _
 have hs2 : (w1.alloc (.cells #[.int .i64 pb.x, .int .i64 pb.y] 23)).heap.size = w1.heap.size + 1 := by simp only [World.alloc, Array.size_push]
 rw [hs1] at HX2 hs2
 generalize w1.alloc (.cells #[.int .i64 pb.x, .int .i64 pb.y] 23) = w2 at *
 revert hF;refine zre 3 [2] [3, 4, 5] fun a hF => ?_
 have HB3 := Lib.hid (Joins.below_alloc1 w2 (.cells #[.int .i64 pc.x, .int .i64 pc.y] 23))
 have HX3 : Hid (PntIn (w2.alloc (.cells #[.int .i64 pc.x, .int .i64 pc.y] 23)) w2.heap.size pc) := World.alloc_heap_new w2 _
 rw [hs2] at HX3
 generalize w2.alloc (.cells #[.int .i64 pc.x, .int .i64 pc.y] 23) = w3 at *
 refine hK _ _ ?_;clear hK
 have HBB : Hid (Below w.heap.size w w3) := HB1.out.trans ((HB2.out.trans (HB3.out.mono HB2.out.size)).mono HB1.out.size)
 obtain ⟨d0, d1⟩ := ((HX1.out.down HB2.out).down HB3.out).cells
 obtain ⟨e0, e1⟩ := (HX2.out.down HB3.out).cells
 obtain ⟨f0, f1⟩ := HX3.out.cells
 clear HX1 HX2 HX3 HB1 HB2 HB3
 revert hF;refine zrs [4, 4, 4, 4, 5, 4, 4, 4, 4, 5, 5, 4, 4, 4, 4, 5, 4, 4, 4, 4, 5, 5, 5, 2] [6] fun a hF => ?_;refine wp_ret ?_;(try simp only [then_ret, block_ret, goto_ret]);revert hF;refine zq ?_
 exact ⟨rfl, HBB.out⟩
end Go.Proofs.YtmcdhggnpfhlmaaGreat

namespace Go.Proofs.YtmcdhggnpfhlmaaGreat
open Go.RowKit Go.IntWalk
set_option linter.unusedSimpArgs false
set_option linter.unusedVariables false

def cornL (b : BoxR) : List PntR := [⟨b.x, b.y⟩, ⟨b.x2, b.y⟩, ⟨b.x, b.y2⟩, ⟨b.x2, b.y2⟩]
def sidesL (pa pb : PntR) (b : BoxR) : List Int := (cornL b).map (sideS pa pb)
theorem sides_at (pa pb : PntR) (b : BoxR) (i : Nat) (h : i < (cornL b).length) (h2 : i < (sidesL pa pb b).length) : (sidesL pa pb b)[i]'h2 = sideS pa pb ((cornL b)[i]'h) := by
 have key : ∀ (S : List Int) (e : S = (cornL b).map (sideS pa pb)) (h2 : i < S.length), S[i]'h2 = sideS pa pb ((cornL b)[i]'h) := by
  intro S e h2
  subst e
  rw [List.getElem_map]
 exact key _ rfl h2
def cntL (p : Int → Bool) (l : List Int) (i : Nat) : Nat := ((l.take i).filter p).length
theorem cnt_next {p : Int → Bool} {l : List Int} {i : Nat} (h : i < l.length) : cntL p l (i + 1) = cntL p l i + if p l[i] then 1 else 0 := by
 unfold cntL
 rw [List.take_succ_eq_append_getElem h, List.filter_append, List.length_append]
 by_cases hp : p l[i] = true <;> simp [hp]
theorem cnt_le (p : Int → Bool) (l : List Int) (i : Nat) : cntL p l i ≤ i := by
 unfold cntL
 exact Nat.le_trans (List.length_filter_le _ _) (by rw [List.length_take]; omega)
theorem cnt_all {p : Int → Bool} {l : List Int} (h : l.length = 4) : decide ((cntL p l 4 : Int) < 4) = !(l.all p) := by
 have e : cntL p l 4 = (l.filter p).length := by
  unfold cntL
  rw [List.take_of_length_le (by omega)]
 rw [e]
 by_cases ha : l.all p = true
 ·
  have : l.filter p = l := List.filter_eq_self.2 (fun x hx => List.all_eq_true.1 ha x hx)
  rw [this, h, ha]
  rfl
 ·
  have hne : (l.filter p).length ≠ l.length := fun hh => ha (List.all_eq_true.2 fun x hx => by
   have := List.Sublist.eq_of_length (List.filter_sublist (p := p) (l := l)) hh
   rw [← this] at hx
   exact (List.mem_filter.1 hx).2)
  have hle := List.length_filter_le p l
  rw [Bool.not_eq_true] at ha
  rw [ha]
  simp
  omega
theorem cross_eq (pa pb : PntR) (b : BoxR) (h1 : ([pa.x, pa.y, pb.x, pb.y, b.x, b.y, b.x2, b.y2].all coordB) = true) (h2 : ¬ b.x2 < b.x) (h3 : ¬ b.y2 < b.y)
  (z : Bool) (hz : (decide (max pa.x pb.x < b.x) || decide (b.x2 < min pa.x pb.x) || decide (max pa.y pb.y < b.y) || decide (b.y2 < min pa.y pb.y)) = z) :
  crossB pa pb b = if z = true then false else (!(sidesL pa pb b).all fun s => decide (0 < s)) && (!(sidesL pa pb b).all fun s => decide (s < 0)) := by
 unfold crossB
 simp only [List.all_cons, List.all_nil, Bool.and_true] at h1
 have h1' : (coordB pa.x && coordB pa.y && coordB pb.x && coordB pb.y && coordB b.x && coordB b.y && coordB b.x2 && coordB b.y2) = true := by
  simp only [Bool.and_eq_true] at h1 ⊢
  simp only [h1, and_self]
 rw [h1', hz]
 simp only [h2, h3, decide_false, Bool.not_true, Bool.or_false, Bool.false_eq_true, if_false]
 rfl
theorem cross_off (pa pb : PntR) (b : BoxR) (h : ([pa.x, pa.y, pb.x, pb.y, b.x, b.y, b.x2, b.y2].all coordB) = false ∨ b.x2 < b.x ∨ b.y2 < b.y) : crossB pa pb b = false := by
 unfold crossB
 rw [if_pos]
 rcases h with h | h | h
 ·
  have : (coordB pa.x && coordB pa.y && coordB pb.x && coordB pb.y && coordB b.x && coordB b.y && coordB b.x2 && coordB b.y2) = false := by
   rw [← h]
   simp only [List.all_cons, List.all_nil, Bool.and_true, Bool.and_assoc]
  rw [this]
  rfl
 ·
  simp [h]
 ·
  simp [h]

theorem corn0 (b : BoxR) (w : World) : (Instr.index 139 (.agg #[.int .i64 b.x, .int .i64 b.y, .int .i64 b.x2, .int .i64 b.y, .int .i64 b.x, .int .i64 b.y2, .int .i64 b.x2, .int .i64 b.y2]) (.int .i64 0)).run Tryz.prog w = .ok (.agg #[.int .i64 b.x, .int .i64 b.y]) w := by kernel_rfl
theorem corn1 (b : BoxR) (w : World) : (Instr.index 139 (.agg #[.int .i64 b.x, .int .i64 b.y, .int .i64 b.x2, .int .i64 b.y, .int .i64 b.x, .int .i64 b.y2, .int .i64 b.x2, .int .i64 b.y2]) (.int .i64 1)).run Tryz.prog w = .ok (.agg #[.int .i64 b.x2, .int .i64 b.y]) w := by kernel_rfl
theorem corn2 (b : BoxR) (w : World) : (Instr.index 139 (.agg #[.int .i64 b.x, .int .i64 b.y, .int .i64 b.x2, .int .i64 b.y, .int .i64 b.x, .int .i64 b.y2, .int .i64 b.x2, .int .i64 b.y2]) (.int .i64 2)).run Tryz.prog w = .ok (.agg #[.int .i64 b.x, .int .i64 b.y2]) w := by kernel_rfl
theorem corn3 (b : BoxR) (w : World) : (Instr.index 139 (.agg #[.int .i64 b.x, .int .i64 b.y, .int .i64 b.x2, .int .i64 b.y, .int .i64 b.x, .int .i64 b.y2, .int .i64 b.x2, .int .i64 b.y2]) (.int .i64 3)).run Tryz.prog w = .ok (.agg #[.int .i64 b.x2, .int .i64 b.y2]) w := by kernel_rfl
theorem corn_at (b : BoxR) (i : Nat) (hi : i < 4) (h2 : i < (cornL b).length) (w : World) : (Instr.index 139 (.agg #[.int .i64 b.x, .int .i64 b.y, .int .i64 b.x2, .int .i64 b.y, .int .i64 b.x, .int .i64 b.y2, .int .i64 b.x2, .int .i64 b.y2]) (.int .i64 (i : Int))).run Tryz.prog w = .ok (.agg #[.int .i64 (cornL b)[i].x, .int .i64 (cornL b)[i].y]) w := by
 have : i = 0 ∨ i = 1 ∨ i = 2 ∨ i = 3 := by omega
 rcases this with rfl | rfl | rfl | rfl
 ·
  exact corn0 b w
 ·
  exact corn1 b w
 ·
  exact corn2 b w
 ·
  exact corn3 b w

set_option maxRecDepth 100000 in
set_option maxHeartbeats 16000000 in
theorem crosses_any (w : World) (pa pb : PntR) (b : BoxR) :
  Calls Tryz.prog 82 #[.agg #[.int .i64 pa.x, .int .i64 pa.y], .agg #[.int .i64 pb.x, .int .i64 pb.y], .agg #[.int .i64 b.x, .int .i64 b.y, .int .i64 b.x2, .int .i64 b.y2]] w fun e w' => e = .returned (.bool (crossB pa pb b)) ∧ Below w.heap.size w w' := by
 obtain ⟨m1, qm1⟩ : ∃ m, (if pa.x < pb.x then pb.x else pa.x) = m := ⟨_, rfl⟩
 have um1 : max pa.x pb.x = m1 := by
  rw [← qm1]
  split <;> omega
 obtain ⟨n1, qn1⟩ : ∃ m, (if pb.x < pa.x then pb.x else pa.x) = m := ⟨_, rfl⟩
 have un1 : min pa.x pb.x = n1 := by
  rw [← qn1]
  split <;> omega
 obtain ⟨m2, qm2⟩ : ∃ m, (if pa.y < pb.y then pb.y else pa.y) = m := ⟨_, rfl⟩
 have um2 : max pa.y pb.y = m2 := by
  rw [← qm2]
  split <;> omega
 obtain ⟨n2, qn2⟩ : ∃ m, (if pb.y < pa.y then pb.y else pa.y) = m := ⟨_, rfl⟩
 have un2 : min pa.y pb.y = n2 := by
  rw [← qn2]
  split <;> omega
 have HCE := Lib.hid (cross_eq pa pb b)
 rw [um1, un1, um2, un2] at HCE
 clear um1 un1 um2 un2
 refine enter_fr (N := 130) [.agg #[.int .i64 pa.x, .int .i64 pa.y], .agg #[.int .i64 pb.x, .int .i64 pb.y], .agg #[.int .i64 b.x, .int .i64 b.y, .int .i64 b.x2, .int .i64 b.y2]] (Tryz.func82) rfl Tryz.ntmps82 (by rfl) (fun a hF => ?_);replace hF := hF.kp [0, 1, 2] rfl;refine wp_seq_k (fun K hK => ?_);refine region_seq (l := [0, 1, 2, 3]) (by kernel_rfl) ?_;refine seq_one ?_;revert hF;refine qe1 fun a hF => ?_;refine seq_one ?_;revert hF;refine qe1 fun a hF => ?_
 have HB1 := Lib.hid (Joins.below_alloc1 w (.cells #[.int .i64 pa.x, .int .i64 pa.y] 23))
 have HX1 : Hid (PntIn (w.alloc (.cells #[.int .i64 pa.x, .int .i64 pa.y] 23)) w.heap.size pa) := World.alloc_heap_new w _
 have hs1 : (w.alloc (.cells #[.int .i64 pa.x, .int .i64 pa.y] 23)).heap.size = w.heap.size + 1 := by simp only [World.alloc, Array.size_push]
 generalize w.alloc (.cells #[.int .i64 pa.x, .int .i64 pa.y] 23) = w1 at *
 refine seq_one ?_;revert hF;refine qe1 fun a hF => ?_
 have HB2 := Lib.hid (Joins.below_alloc1 w1 (.cells #[.int .i64 pb.x, .int .i64 pb.y] 23))
 have HX2 : Hid (PntIn (w1.alloc (.cells #[.int .i64 pb.x, .int .i64 pb.y] 23)) w1.heap.size pb) := World.alloc_heap_new w1 _
 have hs2 : (w1.alloc (.cells #[.int .i64 pb.x, .int .i64 pb.y] 23)).heap.size = w1.heap.size + 1 := by simp only [World.alloc, Array.size_push]
 rw [hs1] at HX2 hs2
 generalize w1.alloc (.cells #[.int .i64 pb.x, .int .i64 pb.y] 23) = w2 at *
 revert hF;refine zre 3 [2] [3, 4, 5] fun a hF => ?_
 have HB3 := Lib.hid (Joins.below_alloc1 w2 (.cells #[.int .i64 b.x, .int .i64 b.y, .int .i64 b.x2, .int .i64 b.y2] 59))
 have HX3 : Hid (BoxIn (w2.alloc (.cells #[.int .i64 b.x, .int .i64 b.y, .int .i64 b.x2, .int .i64 b.y2] 59)) w2.heap.size b) := World.alloc_heap_new w2 _
 rw [hs2] at HX3
 generalize w2.alloc (.cells #[.int .i64 b.x, .int .i64 b.y, .int .i64 b.x2, .int .i64 b.y2] 59) = w3 at *
 refine hK _ _ ?_;clear hK
 have HBB : Hid (Below w.heap.size w w3) := HB1.out.trans ((HB2.out.trans (HB3.out.mono HB2.out.size)).mono HB1.out.size)
 have HPA := Lib.hid ((HX1.out.down HB2.out).down HB3.out)
 have HPB := Lib.hid (HX2.out.down HB3.out)
 have HPX := HX3
 clear HX1 HX2 HX3 HB1 HB2 HB3 hs1 hs2
 obtain ⟨ga, hga⟩ : ∃ g, g = w.heap.size := ⟨_, rfl⟩
 obtain ⟨gb, hgb⟩ : ∃ g, g = w.heap.size + 1 := ⟨_, rfl⟩
 obtain ⟨gx, hgx⟩ : ∃ g, g = w.heap.size + 1 + 1 := ⟨_, rfl⟩
 rw [← hgx, ← hgb, ← hga] at hF
 rw [← hga] at HPA
 rw [← hgb] at HPB
 rw [← hgx] at HPX
 clear hga hgb hgx
 refine wp_seq_k (fun K hK => ?_)
 refine seq_cut (fun a' w' => ∃ z : Bool, FrF 130 [] [(3, .pointer (some ⟨ga, 0, none⟩)), (4, .pointer (some ⟨gb, 0, none⟩)), (5, .pointer (some ⟨gx, 0, none⟩)), (45, .bool z)] a' ∧ Hid (Below w.heap.size w w') ∧ Hid (PntIn w' ga pa) ∧ Hid (PntIn w' gb pb) ∧ Hid (BoxIn w' gx b) ∧ Hid (z = true → crossB pa pb b = false) ∧ Hid (z = false → ¬ b.x2 < b.x ∧ ¬ b.y2 < b.y ∧ [pa.x, pa.y, pb.x, pb.y, b.x, b.y, b.x2, b.y2].all coordB = true)) (fun KC hKC => ?_) ?_
 ·
  obtain ⟨c0, c1⟩ := HPA.out.cells
  obtain ⟨d0, d1⟩ := HPB.out.cells
  obtain ⟨e0, e1, e2, e3⟩ := HPX.out.cells
  revert hF;refine zrp [4, 4, 4, 4, 4, 4, 4, 4, 4, 4, 4, 4, 4, 4, 4, 4] [16, 17, 18, 19, 20, 21, 22, 23, 24, 25, 26, 27, 28, 29, 30, 31, 32] fun a hF => ?_;refine seq_one ?_;refine op_eff (v := ?_) (w' := ?_) rfl rfl rfl hF rfl ?_ ?_
  rotate_left 2
  ·
   intro a hF
   have s14 := hF.slot 14 _ rfl
   have s16 := hF.slot 16 _ rfl
   have s18 := hF.slot 18 _ rfl
   have s20 := hF.slot 20 _ rfl
   have s22 := hF.slot 22 _ rfl
   have s24 := hF.slot 24 _ rfl
   have s26 := hF.slot 26 _ rfl
   have s28 := hF.slot 28 _ rfl
   clear hF
   go_simp <;> first | with_reducible rfl | (constructor <;> with_reducible rfl)
  clear hF;refine fun a hF => ?_
  have HBa := Lib.hid (Joins.below_alloc1 w3 (.cells #[.int .i64 pa.x, .int .i64 pa.y, .int .i64 pb.x, .int .i64 pb.y, .int .i64 b.x, .int .i64 b.y, .int .i64 b.x2, .int .i64 b.y2] 3))
  have HR := Lib.hid (recs_alloc IntE w3 3 [pa.x, pa.y, pb.x, pb.y, b.x, b.y, b.x2, b.y2] #[.int .i64 pa.x, .int .i64 pa.y, .int .i64 pb.x, .int .i64 pb.y, .int .i64 b.x, .int .i64 b.y, .int .i64 b.x2, .int .i64 b.y2] rfl)
  have HBB4 : Hid (Below w.heap.size w (w3.alloc (.cells #[.int .i64 pa.x, .int .i64 pa.y, .int .i64 pb.x, .int .i64 pb.y, .int .i64 b.x, .int .i64 b.y, .int .i64 b.x2, .int .i64 b.y2] 3))) := HBB.out.trans (HBa.out.mono HBB.out.size)
  have HPA4 := Lib.hid (HPA.out.down HBa.out)
  have HPB4 := Lib.hid (HPB.out.down HBa.out)
  have HPX4 := Lib.hid (HPX.out.down HBa.out)
  clear HBB HPA HPB HPX HBa c0 c1 d0 d1 e0 e1 e2 e3
  have HC := Lib.hid (scoord_any _ _ _ 8 _ HR.out (by simp))
  generalize w3.alloc (.cells #[.int .i64 pa.x, .int .i64 pa.y, .int .i64 pb.x, .int .i64 pb.y, .int .i64 b.x, .int .i64 b.y, .int .i64 b.x2, .int .i64 b.y2] 3) = w4 at *
  revert hF;refine zos fun K hK => ?_
  refine HC.out.mono ?_
  rintro e w5 ⟨rfl, hb5⟩
  have HBB5 : Hid (Below w.heap.size w w5) := HBB4.out.trans (hb5.mono HBB4.out.size)
  have HPA5 := Lib.hid (HPA4.out.down hb5)
  have HPB5 := Lib.hid (HPB4.out.down hb5)
  have HPX5 := Lib.hid (HPX4.out.down hb5)
  have HOFF := Lib.hid (cross_off pa pb b)
  obtain ⟨y, hy⟩ : ∃ y, [pa.x, pa.y, pb.x, pb.y, b.x, b.y, b.x2, b.y2].all coordB = y := ⟨_, rfl⟩
  rw [hy] at HOFF ⊢
  have HY := Lib.hid hy
  clear hy HC HR HBB4 HPA4 HPB4 HPX4 hb5
  obtain ⟨e0, e1, e2, e3⟩ := HPX5.out.cells
  cases y
  ·
   refine hK _ _ (fun a hF => ?_);clear hK K;revert hF;refine zre 18 [4, 1, 0, 0, 0, 0, 0, 5, 1, 0, 0, 0, 0, 0, 5] [3, 4, 5, 45] fun a hF => ?_
   exact hKC _ _ ⟨true, hF, HBB5, HPA5, HPB5, HPX5, fun _ => HOFF.out (Or.inl rfl), fun h => by cases h⟩
  by_cases h1 : b.x2 < b.x
  ·
   have hb1 : decide (b.x2 < b.x) = true := decide_eq_true h1
   refine hK _ _ (fun a hF => ?_);clear hK K;revert hF;refine zre 18 [4, 1, 4, 4, 4, 4, 5, 5, 1, 0, 0, 0, 0, 0, 5] [3, 4, 5, 45] fun a hF => ?_
   exact hKC _ _ ⟨true, hF, HBB5, HPA5, HPB5, HPX5, fun _ => HOFF.out (Or.inr (Or.inl h1)), fun h => by cases h⟩
  have hb1 : decide (b.x2 < b.x) = false := decide_eq_false h1
  by_cases h2 : b.y2 < b.y
  ·
   have hb2 : decide (b.y2 < b.y) = true := decide_eq_true h2
   refine hK _ _ (fun a hF => ?_);clear hK K;revert hF;refine zre 18 [4, 1, 4, 4, 4, 4, 5, 5, 1, 4, 4, 4, 4, 5, 5] [3, 4, 5, 45] fun a hF => ?_
   exact hKC _ _ ⟨true, hF, HBB5, HPA5, HPB5, HPX5, fun _ => HOFF.out (Or.inr (Or.inr h2)), fun h => by cases h⟩
  have hb2 : decide (b.y2 < b.y) = false := decide_eq_false h2
  refine hK _ _ (fun a hF => ?_);clear hK K;revert hF;refine zre 18 [4, 1, 4, 4, 4, 4, 5, 5, 1, 4, 4, 4, 4, 5, 5] [3, 4, 5, 45] fun a hF => ?_
  exact hKC _ _ ⟨false, hF, HBB5, HPA5, HPB5, HPX5, (fun h => by cases h), fun _ => ⟨h1, h2, HY.out⟩⟩
 clear hF HBB HPA HPB HPX
 rintro a w4 ⟨z, hF, HBB, HPA, HPB, HPX, HZ1, HZ2⟩
 cases z
 rotate_left
 ·
  refine cond_yes hF rfl ?_
  revert hF;refine zrs [2] [6] fun a hF => ?_;refine wp_ret ?_;(try simp only [then_ret, block_ret, goto_ret]);revert hF;refine zq ?_
  exact ⟨by rw [HZ1.out rfl]; rfl, HBB.out⟩
 refine cond_no hF rfl ?_
 refine wp_skip ?_
 refine hK _ _ ?_;clear hK
 have HZ := Lib.hid (HZ2.out rfl)
 clear HZ1 HZ2
 replace hF := hF.kp [3, 4, 5] rfl;refine wp_seq_k (fun K hK => ?_)
 refine seq_cut (fun a' w' => ∃ z : Bool, FrF 130 [] [(3, .pointer (some ⟨ga, 0, none⟩)), (4, .pointer (some ⟨gb, 0, none⟩)), (5, .pointer (some ⟨gx, 0, none⟩)), (83, .bool z)] a' ∧ w' = w4 ∧ Hid ((decide (m1 < b.x) || decide (b.x2 < n1) || decide (m2 < b.y) || decide (b.y2 < n2)) = z)) (fun KC hKC => ?_) ?_
 ·
  obtain ⟨c0, c1⟩ := HPA.out.cells
  obtain ⟨d0, d1⟩ := HPB.out.cells
  obtain ⟨e0, e1, e2, e3⟩ := HPX.out.cells
  by_cases h1 : m1 < b.x
  ·
   have hb1 : decide (m1 < b.x) = true := decide_eq_true h1
   revert hF;refine zrg [4, 4, 4, 4, 5, 4, 4, 5, 1, 0, 0, 0, 0, 0, 0, 0, 0, 5, 1, 0, 0, 0, 0, 0, 0, 0, 0, 5, 1, 0, 0, 0, 0, 0, 0, 0, 0, 5] [3, 4, 5, 83] fun a hF => ?_
   exact hKC _ _ ⟨true, hF, rfl, by show _ = _; simp [h1]⟩
  have hb1 : decide (m1 < b.x) = false := decide_eq_false h1
  by_cases h2 : b.x2 < n1
  ·
   have hb2 : decide (b.x2 < n1) = true := decide_eq_true h2
   revert hF;refine zrg [4, 4, 4, 4, 5, 4, 4, 5, 1, 4, 4, 4, 4, 5, 4, 4, 5, 5, 1, 0, 0, 0, 0, 0, 0, 0, 0, 5, 1, 0, 0, 0, 0, 0, 0, 0, 0, 5] [3, 4, 5, 83] fun a hF => ?_
   exact hKC _ _ ⟨true, hF, rfl, by show _ = _; simp [h1, h2]⟩
  have hb2 : decide (b.x2 < n1) = false := decide_eq_false h2
  by_cases h3 : m2 < b.y
  ·
   have hb3 : decide (m2 < b.y) = true := decide_eq_true h3
   revert hF;refine zrg [4, 4, 4, 4, 5, 4, 4, 5, 1, 4, 4, 4, 4, 5, 4, 4, 5, 5, 1, 4, 4, 4, 4, 5, 4, 4, 5, 5, 1, 0, 0, 0, 0, 0, 0, 0, 0, 5] [3, 4, 5, 83] fun a hF => ?_
   exact hKC _ _ ⟨true, hF, rfl, by show _ = _; simp [h1, h2, h3]⟩
  have hb3 : decide (m2 < b.y) = false := decide_eq_false h3
  by_cases h4 : b.y2 < n2
  ·
   have hb4 : decide (b.y2 < n2) = true := decide_eq_true h4
   revert hF;refine zrg [4, 4, 4, 4, 5, 4, 4, 5, 1, 4, 4, 4, 4, 5, 4, 4, 5, 5, 1, 4, 4, 4, 4, 5, 4, 4, 5, 5, 1, 4, 4, 4, 4, 5, 4, 4, 5, 5] [3, 4, 5, 83] fun a hF => ?_
   exact hKC _ _ ⟨true, hF, rfl, by show _ = _; simp [h1, h2, h3, h4]⟩
  have hb4 : decide (b.y2 < n2) = false := decide_eq_false h4
  revert hF;refine zrg [4, 4, 4, 4, 5, 4, 4, 5, 1, 4, 4, 4, 4, 5, 4, 4, 5, 5, 1, 4, 4, 4, 4, 5, 4, 4, 5, 5, 1, 4, 4, 4, 4, 5, 4, 4, 5, 5] [3, 4, 5, 83] fun a hF => ?_
  exact hKC _ _ ⟨false, hF, rfl, by show _ = _; simp [h1, h2, h3, h4]⟩
 clear hF
 rintro a wq ⟨z, hF, hwq, HZZ⟩
 rw [hwq]
 clear hwq wq
 have HCR := Lib.hid (HCE.out HZ.out.2.2 HZ.out.1 HZ.out.2.1 z HZZ.out)
 clear HCE HZZ qm1 qn1 qm2 qn2
 cases z
 rotate_left
 ·
  refine cond_yes hF rfl ?_
  revert hF;refine zrs [2] [6] fun a hF => ?_;refine wp_ret ?_;(try simp only [then_ret, block_ret, goto_ret]);revert hF;refine zq ?_
  exact ⟨by rw [HCR.out]; rfl, HBB.out⟩
 refine cond_no hF rfl ?_
 refine wp_skip ?_
 refine hK _ _ ?_;clear hK;replace hF := hF.kp [3, 4, 5] rfl
 obtain ⟨e0, e1, e2, e3⟩ := HPX.out.cells
 refine wp_seq_k (fun K hK => ?_);revert hF;refine zrp [4, 4, 4, 4, 5, 4, 4, 4, 4, 5, 4, 4, 4, 4, 5, 4, 4, 4, 4, 5, 7] [21, 22] fun a hF => ?_;refine seq_one ?_;revert hF;refine qe0 fun a hF => ?_;refine seq_one ?_;revert hF;refine qu2 fun a hF => ?_;refine seq_end ?_;replace hF := hF.kp [3, 4, 7] rfl;refine hK _ _ ?_;clear hK
 have HBa := Lib.hid (Joins.below_alloc1 w4 (.cells #[.int .i64 b.x, .int .i64 b.y, .int .i64 b.x2, .int .i64 b.y, .int .i64 b.x, .int .i64 b.y2, .int .i64 b.x2, .int .i64 b.y2] 139))
 have HCO : Hid ((w4.alloc (.cells #[.int .i64 b.x, .int .i64 b.y, .int .i64 b.x2, .int .i64 b.y, .int .i64 b.x, .int .i64 b.y2, .int .i64 b.x2, .int .i64 b.y2] 139)).heap[w4.heap.size]? = some (.cells #[.int .i64 b.x, .int .i64 b.y, .int .i64 b.x2, .int .i64 b.y, .int .i64 b.x, .int .i64 b.y2, .int .i64 b.x2, .int .i64 b.y2] 139 (0, 0))) := World.alloc_heap_new w4 _
 have HBB5 : Hid (Below w.heap.size w (w4.alloc (.cells #[.int .i64 b.x, .int .i64 b.y, .int .i64 b.x2, .int .i64 b.y, .int .i64 b.x, .int .i64 b.y2, .int .i64 b.x2, .int .i64 b.y2] 139))) := HBB.out.trans (HBa.out.mono HBB.out.size)
 have HPA5 := Lib.hid (HPA.out.down HBa.out)
 have HPB5 := Lib.hid (HPB.out.down HBa.out)
 clear HBB HPA HPB HPX HBa e0 e1 e2 e3
 generalize w4.alloc (.cells #[.int .i64 b.x, .int .i64 b.y, .int .i64 b.x2, .int .i64 b.y, .int .i64 b.x, .int .i64 b.y2, .int .i64 b.x2, .int .i64 b.y2] 139) = w5 at *
 obtain ⟨gc, hgc⟩ : ∃ gc, gc = w4.heap.size := ⟨_, rfl⟩
 rw [← hgc] at hF HCO
 clear hgc
 have k0 : w5.cell? ⟨gc, 0, none⟩ = some (.int .i64 b.x) := boxed_cell (j := 0) HCO.out rfl
 have k1 : w5.cell? ⟨gc, 1, none⟩ = some (.int .i64 b.y) := boxed_cell (j := 1) HCO.out rfl
 have k2 : w5.cell? ⟨gc, 2, none⟩ = some (.int .i64 b.x2) := boxed_cell (j := 2) HCO.out rfl
 have k3 : w5.cell? ⟨gc, 3, none⟩ = some (.int .i64 b.y) := boxed_cell (j := 3) HCO.out rfl
 have k4 : w5.cell? ⟨gc, 4, none⟩ = some (.int .i64 b.x) := boxed_cell (j := 4) HCO.out rfl
 have k5 : w5.cell? ⟨gc, 5, none⟩ = some (.int .i64 b.y2) := boxed_cell (j := 5) HCO.out rfl
 have k6 : w5.cell? ⟨gc, 6, none⟩ = some (.int .i64 b.x2) := boxed_cell (j := 6) HCO.out rfl
 have k7 : w5.cell? ⟨gc, 7, none⟩ = some (.int .i64 b.y2) := boxed_cell (j := 7) HCO.out rfl
 have hco : ∀ n ∈ [pa.x, pa.y, pb.x, pb.y, b.x, b.y, b.x2, b.y2], 0 ≤ n ∧ n ≤ 10000 := fun n hn => by
  have := List.all_eq_true.1 HZ.out.2.2 n hn
  simpa [coordB] using this
 have HOKA : Hid (PntOk pa) := ⟨(hco pa.x (by simp)).1, (hco pa.x (by simp)).2, (hco pa.y (by simp)).1, (hco pa.y (by simp)).2⟩
 have HOKB : Hid (PntOk pb) := ⟨(hco pb.x (by simp)).1, (hco pb.x (by simp)).2, (hco pb.y (by simp)).1, (hco pb.y (by simp)).2⟩
 have HOKC : Hid (∀ c ∈ cornL b, PntOk c) := fun c hc => by
  have h1 := hco b.x (by simp)
  have h2 := hco b.y (by simp)
  have h3 := hco b.x2 (by simp)
  have h4 := hco b.y2 (by simp)
  simp only [cornL, List.mem_cons, List.not_mem_nil, or_false] at hc
  rcases hc with rfl | rfl | rfl | rfl
  ·
   exact ⟨h1.1, h1.2, h2.1, h2.2⟩
  ·
   exact ⟨h3.1, h3.2, h2.1, h2.2⟩
  ·
   exact ⟨h1.1, h1.2, h4.1, h4.2⟩
  ·
   exact ⟨h3.1, h3.2, h4.1, h4.2⟩
 clear hco HZ
 have HSI : Hid (∀ i (h : i < (cornL b).length) (h2 : i < (sidesL pa pb b).length), (sidesL pa pb b)[i]'h2 = sideS pa pb ((cornL b)[i]'h)) := fun i h h2 => sides_at pa pb b i h h2
 have HSL : Hid ((sidesL pa pb b).length = 4) := rfl
 generalize sidesL pa pb b = S at *
 revert hF;refine zrs [2, 2] [3, 4, 7, 8, 9] fun a hF => ?_;refine wp_seq_k (fun KA hKA => ?_);revert hF;refine zrs [4, 1] [3, 4, 8, 9, 105, 106] fun a hF => ?_
 clear k0 k1 k2 k3 k4 k5 k6 k7
 refine wp_block ?_
 refine loop_fr (fun n a' w' => ∃ i : Nat, i + n = 4 ∧ FrF 130 [] [(3, .pointer (some ⟨ga, 0, none⟩)), (4, .pointer (some ⟨gb, 0, none⟩)), (8, .int .i64 (cntL (fun s => decide (0 < s)) S i : Nat)), (9, .int .i64 (cntL (fun s => decide (s < 0)) S i : Nat)), (105, .agg #[.int .i64 b.x, .int .i64 b.y, .int .i64 b.x2, .int .i64 b.y, .int .i64 b.x, .int .i64 b.y2, .int .i64 b.x2, .int .i64 b.y2]), (106, .int .i64 i)] a' ∧ Hid (Below w.heap.size w w') ∧ Hid (PntIn w' ga pa) ∧ Hid (PntIn w' gb pb)) 4 ⟨0, rfl, hF, HBB5, HPA5, HPB5⟩ ?_
 clear hF HBB5 HPA5 HPB5 HCO
 rintro rk a wr ⟨i, hik, hF, HBB, HPA, HPB⟩ KB hKB
 by_cases hlt : i < 4
 rotate_left
 ·
  have hlti : ¬ (i : Int) < 4 := by omega
  revert hF;refine zrs [4] [3, 4, 8, 9, 105, 106, 107] fun a hF => ?_;refine wp_seq_k (fun K hK => ?_)
  refine cond_no hF rfl ?_
  refine wp_exit ?_
  refine hKA _ _ ?_;clear hKA
  obtain rfl : i = 4 := by omega
  have hA1 := cnt_all (p := (fun s => decide (0 < s))) (l := S) HSL.out
  have hA2 := cnt_all (p := (fun s => decide (s < 0))) (l := S) HSL.out
  rw [if_neg (by decide)] at HCR
  generalize (S.all fun s => decide (0 < s)) = y1 at *
  generalize (S.all fun s => decide (s < 0)) = y2 at *
  generalize cntL (fun s => decide (0 < s)) S 4 = c1 at *
  generalize cntL (fun s => decide (s < 0)) S 4 = c2 at *
  cases y1
  ·
   have hb1 : decide ((c1 : Int) < 4) = true := hA1
   have hb2 : decide ((c2 : Int) < 4) = !y2 := hA2
   clear hA1 hA2
   revert hF;refine zrs [1, 4, 1, 1, 4, 5, 2] [6] fun a hF => ?_;refine wp_ret ?_;(try simp only [then_ret, block_ret, goto_ret]);revert hF;refine zq ?_
   exact ⟨by rw [HCR.out]; rfl, HBB.out⟩
  ·
   have hb1 : decide ((c1 : Int) < 4) = false := hA1
   clear hA1 hA2
   revert hF;refine zrs [1, 4, 1, 0, 0, 5, 2] [6] fun a hF => ?_;refine wp_ret ?_;(try simp only [then_ret, block_ret, goto_ret]);revert hF;refine zq ?_
   exact ⟨by rw [HCR.out]; rfl, HBB.out⟩
 have hlti : (i : Int) < 4 := by omega
 revert hF;refine zrs [4] [3, 4, 8, 9, 105, 106, 107] fun a hF => ?_;refine wp_seq_k (fun K hK => ?_)
 refine cond_yes hF rfl ?_
 refine wp_skip ?_
 refine hK _ _ ?_;clear hK;replace hF := hF.kp [3, 4, 8, 9, 105, 106] rfl
 clear hKA HCR
 have hil : i < (cornL b).length := hlt
 have hiS : i < S.length := by rw [HSL.out]; exact hlt
 have hix := fun wx => corn_at b i hlt hil wx
 have HN1 := Lib.hid (cnt_next (p := (fun s => decide (0 < s))) hiS)
 have HN2 := Lib.hid (cnt_next (p := (fun s => decide (s < 0))) hiS)
 have hsi := HSI.out i hil hiS
 rw [hsi] at HN1 HN2
 have HOKc := Lib.hid (HOKC.out _ (List.getElem_mem hil))
 have hle1 := cnt_le (fun s => decide (0 < s)) S i
 have hle2 := cnt_le (fun s => decide (s < 0)) S i
 clear hsi
 generalize (cornL b)[i] = c at *
 refine seq_cut (fun a' w' => FrF 130 [] [(3, .pointer (some ⟨ga, 0, none⟩)), (4, .pointer (some ⟨gb, 0, none⟩)), (8, .int .i64 (cntL (fun s => decide (0 < s)) S (i + 1) : Nat)), (9, .int .i64 (cntL (fun s => decide (s < 0)) S (i + 1) : Nat)), (105, .agg #[.int .i64 b.x, .int .i64 b.y, .int .i64 b.x2, .int .i64 b.y, .int .i64 b.x, .int .i64 b.y2, .int .i64 b.x2, .int .i64 b.y2]), (106, .int .i64 i)] a' ∧ Hid (Below w.heap.size w w') ∧ Hid (PntIn w' ga pa) ∧ Hid (PntIn w' gb pb)) (fun KC hKC => ?_) ?_
 rotate_left
 ·
  clear hF HBB HPA HPB HN1 HN2 hix HOKc
  rintro a w' ⟨hF, HBB, HPA, HPB⟩
  have hws : IntKind.i64.wrap ((i : Int) + 1) = ((i + 1 : Nat) : Int) := wrap_succ (by omega)
  revert hF;refine zrg [4, 1] [3, 4, 8, 9, 105, 106] fun a hF => ?_
  exact hKB (4 - (i + 1)) _ _ (by omega) ⟨i + 1, by omega, hF, HBB, HPA, HPB⟩
 clear hKB hik
 generalize cntL (fun s => decide (0 < s)) S i = c1 at *
 generalize cntL (fun s => decide (s < 0)) S i = c2 at *
 generalize cntL (fun s => decide (0 < s)) S (i + 1) = n1' at *
 generalize cntL (fun s => decide (s < 0)) S (i + 1) = n2' at *
 refine wp_block ?_
 refine wp_seq_k (fun K hK => ?_);revert hF;refine zrp [5] [1, 2] fun a hF => ?_;refine seq_one ?_;revert hF;refine qe0 fun a hF => ?_
 clear hix
 refine seq_one ?_;revert hF;refine qu2 fun a hF => ?_;refine seq_end ?_;replace hF := hF.kp [3, 4, 8, 9, 11, 105, 106] rfl;refine hK _ _ ?_;clear hK
 have HBa := Lib.hid (Joins.below_alloc1 wr (.cells #[.int .i64 c.x, .int .i64 c.y] 23))
 have HPC : Hid (PntIn (wr.alloc (.cells #[.int .i64 c.x, .int .i64 c.y] 23)) wr.heap.size c) := World.alloc_heap_new wr _
 have HBB7 : Hid (Below w.heap.size w (wr.alloc (.cells #[.int .i64 c.x, .int .i64 c.y] 23))) := HBB.out.trans (HBa.out.mono HBB.out.size)
 have HPA7 := Lib.hid (HPA.out.down HBa.out)
 have HPB7 := Lib.hid (HPB.out.down HBa.out)
 clear HBB HPA HPB HBa
 generalize wr.alloc (.cells #[.int .i64 c.x, .int .i64 c.y] 23) = w7 at *
 obtain ⟨gk, hgk⟩ : ∃ gk, gk = wr.heap.size := ⟨_, rfl⟩
 rw [← hgk] at hF HPC
 clear hgk
 obtain ⟨c0, c1'⟩ := HPA7.out.cells
 obtain ⟨d0, d1⟩ := HPB7.out.cells
 obtain ⟨e0, e1⟩ := HPC.out.cells
 refine wp_seq_k (fun K hK => ?_);revert hF;refine zrp [4, 4, 4] [3, 4] fun a hF => ?_;revert hF;refine zos fun K hK => ?_
 refine (side_any w7 pa pb c HOKA.out HOKB.out HOKc.out).mono ?_
 rintro e w8 ⟨rfl, hb8⟩
 have HBB8 : Hid (Below w.heap.size w w8) := HBB7.out.trans (hb8.mono HBB7.out.size)
 have HPA8 := Lib.hid (HPA7.out.down hb8)
 have HPB8 := Lib.hid (HPB7.out.down hb8)
 clear c0 c1' d0 d1 e0 e1 HBB7 HPA7 HPB7 HPC hb8
 generalize sideS pa pb c = s at *
 refine hK _ _ (fun a hF => ?_);clear hK K;revert hF;refine zre 4 [2] [3, 4, 8, 9, 12, 105, 106] fun a hF => ?_;refine hK _ _ ?_;clear hK
 refine wp_block ?_
 by_cases hp : 0 < s
 ·
  have hpb : decide (0 < s) = true := decide_eq_true hp
  have HM1 : Hid (n1' = c1 + 1) := by
   show _ = _
   have := HN1.out
   simpa [hp] using this
  have HM2 : Hid (n2' = c2) := by
   show _ = _
   have := HN2.out
   simpa [show ¬ s < 0 by omega] using this
  revert hF;refine zrs [1, 4, 2] [3, 4, 8, 9, 12, 105, 106, 113] fun a hF => ?_
  refine cond_yes hF rfl ?_
  have hws : IntKind.i64.wrap ((c1 : Int) + 1) = ((c1 + 1 : Nat) : Int) := wrap_succ (by omega)
  revert hF;refine zrg [1, 4, 2] [3, 4, 8, 9, 105, 106] fun a hF => ?_
  exact hKC _ _ ⟨by rw [HM1.out, HM2.out]; exact hF, HBB8, HPA8, HPB8⟩
 have hpb : decide (0 < s) = false := decide_eq_false hp
 have HM1 : Hid (n1' = c1) := by
   show _ = _
   have := HN1.out
   simpa [hp] using this
 revert hF;refine zrs [1, 4, 2] [3, 4, 8, 9, 12, 105, 106, 113] fun a hF => ?_
 refine cond_no hF rfl ?_
 by_cases hq : s < 0
 ·
  have hqb : decide (s < 0) = true := decide_eq_true hq
  have HM2 : Hid (n2' = c2 + 1) := by
   show _ = _
   have := HN2.out
   simpa [hq] using this
  revert hF;refine zrs [1, 4, 2] [3, 4, 8, 9, 105, 106, 118] fun a hF => ?_
  refine cond_yes hF rfl ?_
  have hws : IntKind.i64.wrap ((c2 : Int) + 1) = ((c2 + 1 : Nat) : Int) := wrap_succ (by omega)
  revert hF;refine zrg [1, 4, 2] [3, 4, 8, 9, 105, 106] fun a hF => ?_
  exact hKC _ _ ⟨by rw [HM1.out, HM2.out]; exact hF, HBB8, HPA8, HPB8⟩
 have hqb : decide (s < 0) = false := decide_eq_false hq
 have HM2 : Hid (n2' = c2) := by
   show _ = _
   have := HN2.out
   simpa [hq] using this
 revert hF;refine zrs [1, 4, 2] [3, 4, 8, 9, 105, 106, 118] fun a hF => ?_
 refine cond_no hF rfl ?_
 refine wp_skip ?_
 exact hKC _ _ ⟨by rw [HM1.out, HM2.out]; exact hF.sub ⟨rfl, rfl, rfl, rfl, rfl, rfl, trivial⟩, HBB8, HPA8, HPB8⟩
end Go.Proofs.YtmcdhggnpfhlmaaGreat
