/- hall: sight's small functions. -/
import Derived.Test.YtmcdhggnpfhlmaaQHCB07
import Derived.Test.YtmcdhggnpfhlmaaQHCB17

namespace Go.Proofs.Ytmcdhggnpfhlmaa
open Go.RowKit Go.IntWalk
set_option linter.unusedSimpArgs false
set_option linter.unusedVariables false

theorem mul_bd {x y : Int} (h1 : -10000 ≤ x) (h2 : x ≤ 10000) (h3 : -10000 ≤ y) (h4 : y ≤ 10000) : -100000000 ≤ x * y ∧ x * y ≤ 100000000 := by
  have hx : x.natAbs ≤ 10000 := by omega
  have hy : y.natAbs ≤ 10000 := by omega
  have := Nat.mul_le_mul hx hy
  rw [← Int.natAbs_mul] at this
  omega

set_option maxRecDepth 100000 in
set_option maxHeartbeats 8000000 in
theorem tick_any (w : World) (g : Nat) (v : Int) (b : Bool) (h : w.heap[g]? = some (.cells #[.int .i64 v] 3 (0, 0))) (h0 : 0 ≤ v) (h1 : v < 9223372036854775807) :
    Calls Try.prog 76 #[.bool b, .pointer (some ⟨g, 0, none⟩)] w fun e w' => e = .returned (.tuple #[]) ∧ w'.heap[g]? = some (.cells #[.int .i64 (v + if b then 1 else 0)] 3 (0, 0)) ∧ Upd (fun i => i = g) w w' := by
  have HN := Lib.hid h
  have c0 : w.cell? ⟨g, 0, none⟩ = some (.int .i64 v) := boxed_cell (j := 0) HN.out rfl
  have c1 := free_var (o := 0) HN.out
  have hws : IntKind.i64.wrap (v + 1) = v + 1 := wrap_in (by omega) (by omega)
  clear h
  refine enter_fr (N := 6) [.bool b, .pointer (some ⟨g, 0, none⟩)] (Try.func76) rfl Try.ntmps76 (by rfl) (fun a hF => ?_);replace hF := hF.kp [0, 1] rfl;refine wp_seq_k (fun K hK => ?_);refine region_sk [0] [] hF fun C hC => ?_;clear hF;refine zm rfl rfl rfl ?_;refine hC _ (fun a hF => ?_);clear hC C;refine seq_end ?_;replace hF := hF.kp [1, 3] rfl;refine hK _ _ ?_;clear hK;(try clear K)
  cases b
  · refine cond_no hF rfl ?_
    refine wp_skip ?_
    (try simp only [then_exit, block_exit, block_norm, goto_norm, ↓reduceIte, Nat.reduceEqDiff]);refine end_fr (fn := Try.f76) (rs := []) rfl [] hF trivial ?_
    exact ⟨rfl, by simpa using HN.out, Upd.refl _ _⟩
  · refine cond_yes hF rfl ?_
    refine region_sk [0, 1] [2] hF fun C hC => ?_;clear hF;refine zs1 1 rfl rfl ?_;refine zs1 4 rfl rfl ?_;refine hC _ (fun a hF => ?_);clear hC C;refine seq_one ?_;refine zu2 1 5 rfl rfl hF rfl rfl rfl ?_;clear hF;refine fun a hF => ?_;refine seq_end ?_;replace hF := hF.kp [] rfl;(try simp only [then_exit, block_exit, block_norm, goto_norm, ↓reduceIte, Nat.reduceEqDiff]);refine end_fr (fn := Try.f76) (rs := []) rfl [] hF trivial ?_
    exact ⟨rfl, set_var (v := .int .i64 (v + 1)) HN.out, Upd.setCell _ g 0 _ rfl⟩

set_option maxRecDepth 100000 in
set_option maxHeartbeats 8000000 in
theorem scoord_any (w : World) (ra : Option Addr) (n c : Nat) (xs : List Int) (h : Recs IntE w ra n xs) (hn : n ≤ 9223372036854775807) :
    Calls Try.prog 75 #[.slice ra n c] w fun e w' => e = .returned (.bool (xs.all coordB)) ∧ Below w.heap.size w w' := by
  have HR := Lib.hid h
  have HLN := Lib.hid h.1
  clear h
  refine enter_fr (N := 18) [.slice ra n c] (Try.func75) rfl Try.ntmps75 (by rfl) (fun a hF => ?_);replace hF := hF.kp [0] rfl;refine wp_seq_k (fun K hK => ?_);refine region_sk [0] [] hF fun C hC => ?_;clear hF;refine za rfl rfl rfl ?_;refine hC _ (fun a hF => ?_);clear hC C;refine seq_end ?_;replace hF := hF.kp [0] rfl;refine hK _ _ ?_;clear hK;(try clear K);refine wp_seq_k (fun KA hKA => ?_);refine wp_seq_k (fun K hK => ?_);refine region_sk [0, 1, 2] [] hF fun C hC => ?_;clear hF;refine zm rfl rfl rfl ?_;refine zs1 5 rfl rfl ?_;refine zm rfl rfl rfl ?_;refine hC _ (fun a hF => ?_);clear hC C;refine seq_end ?_;replace hF := hF.kp [5, 6, 7] rfl;refine hK _ _ ?_;clear hK;(try clear K)
  refine wp_block ?_
  refine loop_fr (fun m a' w' => ∃ i : Nat, i + m = n ∧ FrF 18 [] [(5, .slice ra n c), (6, .int .i64 n), (7, .int .i64 i)] a' ∧ w' = w ∧ Hid (∀ j (hj : j < xs.length), j < i → coordB xs[j] = true)) n ⟨0, by omega, hF, rfl, fun j _ hj => absurd hj (Nat.not_lt_zero _)⟩ ?_
  clear hF
  rintro rk a wr ⟨i, hik, hF, rfl, HP⟩ KB hKB
  refine wp_seq_k (fun K hK => ?_)
  by_cases hlt : i < n
  rotate_left
  · refine region_sk [0] [] hF fun C hC => ?_;clear hF;refine zs2 6 7 rfl rfl rfl ?_;refine hC _ (fun a hF => ?_);clear hC C;refine seq_end ?_;replace hF := hF.kp [5, 6, 7, 8] rfl;refine hK _ _ ?_;clear hK;(try clear K);refine wp_seq_k (fun K hK => ?_)
    refine cond_no hF rfl ?_
    refine wp_exit ?_
    refine hKA _ _ ?_;clear hKA;(try clear KA);refine wp_seq_k (fun K hK => ?_);refine region_sk [0] [] hF fun C hC => ?_;clear hF;refine za rfl rfl rfl ?_;refine hC _ (fun a hF => ?_);clear hC C;refine seq_end ?_;replace hF := hF.kp [2] rfl;refine hK _ _ ?_;clear hK;(try clear K);refine wp_ret ?_;(try simp only [then_ret, block_ret, goto_ret]);refine ret_fr (fn := Try.f75) (rs := [.tmp 2]) rfl [_] hF ⟨rfl, trivial⟩ ?_
    have : xs.all coordB = true := by
      rw [List.all_eq_true]
      intro x hx
      obtain ⟨j, hj, rfl⟩ := List.mem_iff_getElem.1 hx
      exact HP.out j hj (by have := HLN.out; omega)
    exact ⟨by rw [this]; rfl, Below.refl _ _⟩
  refine region_sk [0] [] hF fun C hC => ?_;clear hF;refine zs2 6 7 rfl rfl rfl ?_;refine hC _ (fun a hF => ?_);clear hC C;refine seq_end ?_;replace hF := hF.kp [5, 6, 7, 8] rfl;refine hK _ _ ?_;clear hK;(try clear K);refine wp_seq_k (fun K hK => ?_)
  refine cond_yes hF rfl ?_
  refine wp_skip ?_
  refine hK _ _ ?_;clear hK;(try clear K);replace hF := hF.kp [5, 6, 7] rfl
  clear hKA
  have hil : i < xs.length := by rw [HLN.out]; exact hlt
  have hii : (i : Int) < n := by omega
  obtain ⟨b0, o, hra, d0⟩ := int_at HR.out i hlt hil
  have HNO : Hid (coordB xs[i] = false → xs.all coordB = false) := fun h => by
    rw [List.all_eq_false]
    exact ⟨xs[i], List.getElem_mem hil, by simp [h]⟩
  have HPN : Hid (coordB xs[i] = true → ∀ j (hj : j < xs.length), j < i + 1 → coordB xs[j] = true) := fun h j hj hji => by
    by_cases e : j = i
    · subst e; exact h
    · exact HP.out j hj (by omega)
  generalize xs[i] = x at *
  refine seq_cut (fun a' w' => FrF 18 [] [(5, .slice ra n c), (6, .int .i64 n), (7, .int .i64 i)] a' ∧ w' = wr ∧ Hid (∀ j (hj : j < xs.length), j < i + 1 → coordB xs[j] = true)) (fun KC hKC => ?_) ?_
  rotate_left
  · clear hF HP HPN d0 hra
    rintro a w' ⟨hF, rfl, HP⟩
    have hws : IntKind.i64.wrap ((i : Int) + 1) = ((i + 1 : Nat) : Int) := wrap_succ (by omega)
    refine region_sk [0, 1] [] hF fun C hC => ?_;clear hF;refine zs1 7 rfl rfl ?_;refine zm rfl rfl rfl ?_;refine hC _ (fun a hF => ?_);clear hC C;refine seq_end ?_;replace hF := hF.kp [5, 6, 7] rfl
    exact hKB (n - (i + 1)) _ _ (by omega) ⟨i + 1, by omega, hF, rfl, HP⟩
  clear hKB hik
  refine wp_block ?_
  refine wp_seq_k (fun K hK => ?_);refine region_sk [0, 1, 2] [] hF fun C hC => ?_;clear hF;refine zs2 5 7 rfl rfl rfl ?_;refine zs1 9 rfl rfl ?_;refine za rfl rfl rfl ?_;refine hC _ (fun a hF => ?_);clear hC C;refine seq_end ?_;replace hF := hF.kp [4, 5, 6, 7] rfl
  clear d0 hra
  refine hK _ _ ?_;clear hK;(try clear K);refine wp_seq_k (fun K hK => ?_)
  by_cases h1 : x < 0
  · have hb1 : decide (x < 0) = true := decide_eq_true h1
    refine region_sk [0, 1, 2, 3, 4, 5] [] hF fun C hC => ?_;clear hF;refine zm rfl rfl rfl ?_;refine zs1 11 rfl rfl ?_;refine zm rfl rfl rfl ?_;refine zx rfl ?_;refine zx rfl ?_;refine zs2 13 15 rfl rfl rfl ?_;refine hC _ (fun a hF => ?_);clear hC C;refine seq_end ?_;replace hF := hF.kp [5, 6, 7, 16] rfl;refine hK _ _ ?_;clear hK;(try clear K)
    refine cond_yes hF rfl ?_
    refine wp_seq_k (fun K hK => ?_);refine region_sk [0] [] hF fun C hC => ?_;clear hF;refine za rfl rfl rfl ?_;refine hC _ (fun a hF => ?_);clear hC C;refine seq_end ?_;replace hF := hF.kp [2] rfl;refine hK _ _ ?_;clear hK;(try clear K);refine wp_ret ?_;(try simp only [then_ret, block_ret, goto_ret]);refine ret_fr (fn := Try.f75) (rs := [.tmp 2]) rfl [_] hF ⟨rfl, trivial⟩ ?_
    exact ⟨by rw [HNO.out (by simp [coordB]; omega)]; rfl, Below.refl _ _⟩
  have hb1 : decide (x < 0) = false := decide_eq_false h1
  by_cases h2 : 10000 < x
  · have hb2 : decide (10000 < x) = true := decide_eq_true h2
    refine region_sk [0, 1, 2, 3, 4, 5] [] hF fun C hC => ?_;clear hF;refine zm rfl rfl rfl ?_;refine zs1 11 rfl rfl ?_;refine zm rfl rfl rfl ?_;refine zm rfl rfl rfl ?_;refine zs1 14 rfl rfl ?_;refine zs2 13 15 rfl rfl rfl ?_;refine hC _ (fun a hF => ?_);clear hC C;refine seq_end ?_;replace hF := hF.kp [5, 6, 7, 16] rfl;refine hK _ _ ?_;clear hK;(try clear K)
    refine cond_yes hF rfl ?_
    refine wp_seq_k (fun K hK => ?_);refine region_sk [0] [] hF fun C hC => ?_;clear hF;refine za rfl rfl rfl ?_;refine hC _ (fun a hF => ?_);clear hC C;refine seq_end ?_;replace hF := hF.kp [2] rfl;refine hK _ _ ?_;clear hK;(try clear K);refine wp_ret ?_;(try simp only [then_ret, block_ret, goto_ret]);refine ret_fr (fn := Try.f75) (rs := [.tmp 2]) rfl [_] hF ⟨rfl, trivial⟩ ?_
    exact ⟨by rw [HNO.out (by simp [coordB]; omega)]; rfl, Below.refl _ _⟩
  have hb2 : decide (10000 < x) = false := decide_eq_false h2
  refine region_sk [0, 1, 2, 3, 4, 5] [] hF fun C hC => ?_;clear hF;refine zm rfl rfl rfl ?_;refine zs1 11 rfl rfl ?_;refine zm rfl rfl rfl ?_;refine zm rfl rfl rfl ?_;refine zs1 14 rfl rfl ?_;refine zs2 13 15 rfl rfl rfl ?_;refine hC _ (fun a hF => ?_);clear hC C;refine seq_end ?_;replace hF := hF.kp [5, 6, 7, 16] rfl;refine hK _ _ ?_;clear hK;(try clear K)
  refine cond_no hF rfl ?_
  refine wp_skip ?_
  exact hKC _ _ ⟨hF.sub ⟨rfl, rfl, rfl, trivial⟩, rfl, HPN.out (by simp [coordB]; omega)⟩

def PntIn (w : World) (g : Nat) (b : PntR) : Prop := w.heap[g]? = some (.cells #[.int .i64 b.x, .int .i64 b.y] 23 (0, 0))
theorem PntIn.cells {w : World} {g : Nat} {b : PntR} (h : PntIn w g b) : w.cell? ⟨g, 0, none⟩ = some (.int .i64 b.x) ∧ w.cell? ⟨g, 1, none⟩ = some (.int .i64 b.y) :=
  ⟨boxed_cell (j := 0) h rfl, boxed_cell (j := 1) h rfl⟩
theorem PntIn.down {w w' : World} {g : Nat} {b : PntR} (h : PntIn w g b) (hb : Below w.heap.size w w') : PntIn w' g b := (hb.block g (lt_of_block h)).trans h
/-- On the plan. -/
def PntOk (p : PntR) : Prop := 0 ≤ p.x ∧ p.x ≤ 10000 ∧ 0 ≤ p.y ∧ p.y ≤ 10000

set_option maxRecDepth 100000 in
set_option maxHeartbeats 8000000 in
theorem side_any (w : World) (pa pb pc : PntR) (ha : PntOk pa) (hb : PntOk pb) (hc : PntOk pc) :
    Calls Try.prog 89 #[.agg #[.int .i64 pa.x, .int .i64 pa.y], .agg #[.int .i64 pb.x, .int .i64 pb.y], .agg #[.int .i64 pc.x, .int .i64 pc.y]] w fun e w' => e = .returned (.int .i64 (sideS pa pb pc)) ∧ Below w.heap.size w w' := by
  obtain ⟨a1, a2, a3, a4⟩ := ha
  obtain ⟨b1, b2, b3, b4⟩ := hb
  obtain ⟨c1, c2, c3, c4⟩ := hc
  have hw1 : IntKind.i64.wrap (pb.x - pa.x) = pb.x - pa.x := wrap_in (by omega) (by omega)
  have hw2 : IntKind.i64.wrap (pc.y - pa.y) = pc.y - pa.y := wrap_in (by omega) (by omega)
  have hw3 : IntKind.i64.wrap (pb.y - pa.y) = pb.y - pa.y := wrap_in (by omega) (by omega)
  have hw4 : IntKind.i64.wrap (pc.x - pa.x) = pc.x - pa.x := wrap_in (by omega) (by omega)
  obtain ⟨m1, m2⟩ := mul_bd (x := pb.x - pa.x) (y := pc.y - pa.y) (by omega) (by omega) (by omega) (by omega)
  obtain ⟨m3, m4⟩ := mul_bd (x := pb.y - pa.y) (y := pc.x - pa.x) (by omega) (by omega) (by omega) (by omega)
  have hw5 : IntKind.i64.wrap ((pb.x - pa.x) * (pc.y - pa.y)) = (pb.x - pa.x) * (pc.y - pa.y) := wrap_in (by omega) (by omega)
  have hw6 : IntKind.i64.wrap ((pb.y - pa.y) * (pc.x - pa.x)) = (pb.y - pa.y) * (pc.x - pa.x) := wrap_in (by omega) (by omega)
  have hw7 : IntKind.i64.wrap ((pb.x - pa.x) * (pc.y - pa.y) - (pb.y - pa.y) * (pc.x - pa.x)) = (pb.x - pa.x) * (pc.y - pa.y) - (pb.y - pa.y) * (pc.x - pa.x) := wrap_in (by omega) (by omega)
  clear a1 a2 a3 a4 b1 b2 b3 b4 c1 c2 c3 c4 m1 m2 m3 m4
  unfold sideS
  refine enter_fr (N := 30) [.agg #[.int .i64 pa.x, .int .i64 pa.y], .agg #[.int .i64 pb.x, .int .i64 pb.y], .agg #[.int .i64 pc.x, .int .i64 pc.y]] (Try.func89) rfl Try.ntmps89 (by rfl) (fun a hF => ?_);replace hF := hF.kp [0, 1, 2] rfl;refine wp_seq_k (fun K hK => ?_);refine region_seq (l := [0, 1, 2, 3]) (by kernel_rfl) ?_;refine seq_one ?_;refine ze1 0 rfl rfl rfl hF rfl rfl ?_;clear hF;refine fun a hF => ?_;refine seq_one ?_;refine ze1 1 rfl rfl rfl hF rfl rfl ?_;clear hF;refine fun a hF => ?_
  have HB1 := Lib.hid (Joins.below_alloc1 w (.cells #[.int .i64 pa.x, .int .i64 pa.y] 23))
  have HX1 : Hid (PntIn (w.alloc (.cells #[.int .i64 pa.x, .int .i64 pa.y] 23)) w.heap.size pa) := World.alloc_heap_new w _
  have hs1 : (w.alloc (.cells #[.int .i64 pa.x, .int .i64 pa.y] 23)).heap.size = w.heap.size + 1 := by simp only [World.alloc, Array.size_push]
  generalize w.alloc (.cells #[.int .i64 pa.x, .int .i64 pa.y] 23) = w1 at *
  refine seq_one ?_;refine ze1 2 rfl rfl rfl hF rfl rfl ?_;clear hF;refine fun a hF => ?_
  have HB2 := Lib.hid (Joins.below_alloc1 w1 (.cells #[.int .i64 pb.x, .int .i64 pb.y] 23))
  have HX2 : Hid (PntIn (w1.alloc (.cells #[.int .i64 pb.x, .int .i64 pb.y] 23)) w1.heap.size pb) := World.alloc_heap_new w1 _
  have hs2 : (w1.alloc (.cells #[.int .i64 pb.x, .int .i64 pb.y] 23)).heap.size = w1.heap.size + 1 := by simp only [World.alloc, Array.size_push]
  rw [hs1] at HX2 hs2
  generalize w1.alloc (.cells #[.int .i64 pb.x, .int .i64 pb.y] 23) = w2 at *
  refine seq_ck [3] [] hF fun C hC => ?_;clear hF;refine za rfl rfl rfl ?_;refine hC _ (fun a hF => ?_);clear hC C;refine seq_end ?_;replace hF := hF.kp [3, 4, 5] rfl
  have HB3 := Lib.hid (Joins.below_alloc1 w2 (.cells #[.int .i64 pc.x, .int .i64 pc.y] 23))
  have HX3 : Hid (PntIn (w2.alloc (.cells #[.int .i64 pc.x, .int .i64 pc.y] 23)) w2.heap.size pc) := World.alloc_heap_new w2 _
  rw [hs2] at HX3
  generalize w2.alloc (.cells #[.int .i64 pc.x, .int .i64 pc.y] 23) = w3 at *
  refine hK _ _ ?_;clear hK;(try clear K)
  have HBB : Hid (Below w.heap.size w w3) := HB1.out.trans ((HB2.out.trans (HB3.out.mono HB2.out.size)).mono HB1.out.size)
  obtain ⟨d0, d1⟩ := ((HX1.out.down HB2.out).down HB3.out).cells
  obtain ⟨e0, e1⟩ := (HX2.out.down HB3.out).cells
  obtain ⟨f0, f1⟩ := HX3.out.cells
  clear HX1 HX2 HX3 HB1 HB2 HB3
  refine wp_seq_k (fun K hK => ?_);refine region_sk [0, 1, 2, 3, 4, 5, 6, 7, 8, 9, 10, 11, 12, 13, 14, 15, 16, 17, 18, 19, 20, 21, 22, 23] [] hF fun C hC => ?_;clear hF;refine zs1 4 rfl rfl ?_;refine zs1 7 rfl rfl ?_;refine zs1 3 rfl rfl ?_;refine zs1 9 rfl rfl ?_;refine zs2 8 10 rfl rfl rfl ?_;refine zs1 5 rfl rfl ?_;refine zs1 12 rfl rfl ?_;refine zs1 3 rfl rfl ?_;refine zs1 14 rfl rfl ?_;refine zs2 13 15 rfl rfl rfl ?_;refine zs2 11 16 rfl rfl rfl ?_;refine zs1 4 rfl rfl ?_;refine zs1 18 rfl rfl ?_;refine zs1 3 rfl rfl ?_;refine zs1 20 rfl rfl ?_;refine zs2 19 21 rfl rfl rfl ?_;refine zs1 5 rfl rfl ?_;refine zs1 23 rfl rfl ?_;refine zs1 3 rfl rfl ?_;refine zs1 25 rfl rfl ?_;refine zs2 24 26 rfl rfl rfl ?_;refine zs2 22 27 rfl rfl rfl ?_;refine zs2 17 28 rfl rfl rfl ?_;refine za rfl rfl rfl ?_;refine hC _ (fun a hF => ?_);clear hC C;refine seq_end ?_;replace hF := hF.kp [6] rfl;refine hK _ _ ?_;clear hK;(try clear K);refine wp_ret ?_;(try simp only [then_ret, block_ret, goto_ret]);refine ret_fr (fn := Try.f89) (rs := [.tmp 6]) rfl [_] hF ⟨rfl, trivial⟩ ?_
  exact ⟨rfl, HBB.out⟩
end Go.Proofs.Ytmcdhggnpfhlmaa
