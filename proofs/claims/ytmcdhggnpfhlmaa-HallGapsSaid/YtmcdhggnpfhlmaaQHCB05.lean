/- hall: box; what an alloc lays; A block of cells that holds bools. -/
import Derived.Test.YtmcdhggnpfhlmaaQHCB00
import Derived.Test.YtmcdhggnpfhlmaaQHCB04
import Derived.Test.YtmcdhggnpfhlmaaProg
import Derived.Deep.OwnRows

namespace Go.Proofs.Ytmcdhggnpfhlmaa
open Go.RowKit Go.IntWalk
set_option linter.unusedSimpArgs false
set_option linter.unusedVariables false

/-- A block that has just been made reads as records. -/
theorem recs_alloc {α : Type} {k : Nat} (E : Enc α k) (w : World) (T : TypeId) (xs : List α) (arr : Array Value) (h : arr.toList = flat E xs) : Recs E (w.alloc (.cells arr T)) (some ⟨w.heap.size, 0, none⟩) xs.length xs := by
  refine ⟨rfl, fun i hi => ⟨_, _, rfl, fun j hj => ?_⟩⟩
  have hN := World.alloc_heap_new w (.cells arr T)
  rw [cell_of_row (j := 0 + i * k + j) _ _ _ _ _ hN]
  have := flat_get (E := E) xs i j hi hj
  rw [Nat.zero_add, ← this, ← h]
  simp

/-- A struct in a block of its own: its cells. -/
theorem boxed_cell {w : World} {g j : Nat} {arr : Array Value} {T : TypeId} {v : Value} (h : w.heap[g]? = some (.cells arr T (0, 0))) (hj : arr[j]? = some v) : w.cell? ⟨g, j, none⟩ = some v := by
  rw [cell_of_row (j := j) _ _ _ _ _ h]
  exact hj

set_option maxRecDepth 100000 in
set_option maxHeartbeats 8000000 in
theorem box_any (w : World) (b : BoxR) :
    Calls Try.prog 42 #[.agg #[.int .i64 b.x, .int .i64 b.y, .int .i64 b.x2, .int .i64 b.y2]] w fun e w' => e = .returned (.bool (boxB b)) ∧ Below w.heap.size w w' := by
  obtain ⟨b0, b1, b2, b3⟩ := b
  unfold boxB
  dsimp only
  refine enter_fr (N := 27) [.agg #[.int .i64 b0, .int .i64 b1, .int .i64 b2, .int .i64 b3]] (Try.func42) rfl Try.ntmps42 (by rfl) (fun a hF => ?_);replace hF := hF.kp [0] rfl;refine wp_seq_k (fun K hK => ?_);refine region_seq (l := [0, 1]) (by kernel_rfl) ?_;refine seq_one ?_;refine ze1 0 rfl rfl rfl hF rfl rfl ?_;clear hF;refine fun a hF => ?_;refine seq_ck [1] [] hF fun C hC => ?_;clear hF;refine za rfl rfl rfl ?_;refine hC _ (fun a hF => ?_);clear hC C;refine seq_end ?_;replace hF := hF.kp [1] rfl;refine hK _ _ ?_;clear hK;(try clear K)
  have HB1 := Lib.hid (Joins.below_alloc1 w (.cells #[.int .i64 b0, .int .i64 b1, .int .i64 b2, .int .i64 b3] 46))
  have hN : (w.alloc (.cells #[.int .i64 b0, .int .i64 b1, .int .i64 b2, .int .i64 b3] 46)).heap[w.heap.size]? = some (.cells #[.int .i64 b0, .int .i64 b1, .int .i64 b2, .int .i64 b3] 46 (0, 0)) := World.alloc_heap_new w _
  generalize w.alloc (.cells #[.int .i64 b0, .int .i64 b1, .int .i64 b2, .int .i64 b3] 46) = w1 at *
  generalize w.heap.size = g at *
  have c0 := cell_of_row (j := 0) _ _ _ _ _ hN
  have c1 := cell_of_row (j := 1) _ _ _ _ _ hN
  have c2 := cell_of_row (j := 2) _ _ _ _ _ hN
  have c3 := cell_of_row (j := 3) _ _ _ _ _ hN
  have hgl : g < w1.heap.size := cell_lt c0
  clear hN
  refine wp_seq_k (fun K hK => ?_);refine region_sk [0, 1, 2, 3, 4, 5, 6, 7] [8, 9, 10, 11, 12, 13, 14, 15, 16, 17, 18, 19, 20, 21, 22, 23, 24] hF fun C hC => ?_;clear hF;refine zs1 1 rfl rfl ?_;refine zs1 3 rfl rfl ?_;refine zs1 1 rfl rfl ?_;refine zs1 5 rfl rfl ?_;refine zs1 1 rfl rfl ?_;refine zs1 7 rfl rfl ?_;refine zs1 1 rfl rfl ?_;refine zs1 9 rfl rfl ?_;refine hC _ (fun a hF => ?_);clear hC C;refine seq_one ?_;refine op_eff (v := ?_) (w' := ?_) rfl rfl rfl hF rfl ?_ ?_
  rotate_left 2
  · intro a hF
    have s4 := hF.slot 4 _ rfl
    have s6 := hF.slot 6 _ rfl
    have s8 := hF.slot 8 _ rfl
    have s10 := hF.slot 10 _ rfl
    clear hF
    go_simp <;> first | with_reducible rfl | (constructor <;> with_reducible rfl)
  clear hF;refine fun a hF => ?_
  have HR := Lib.hid (recs_alloc IntE w1 3 [b0, b1, b2, b3] #[.int .i64 b0, .int .i64 b1, .int .i64 b2, .int .i64 b3] rfl)
  have HB2 := Lib.hid (Joins.below_alloc1 w1 (.cells #[.int .i64 b0, .int .i64 b1, .int .i64 b2, .int .i64 b3] 3))
  have HC := Lib.hid (coords_any _ _ _ 4 _ HR.out (by simp))
  generalize w1.alloc (.cells #[.int .i64 b0, .int .i64 b1, .int .i64 b2, .int .i64 b3] 3) = w2 at *
  refine seq_one ?_;refine op_call [_] rfl rfl hF rfl (by kernel_rfl) ⟨rfl, trivial⟩ (fun K hK => ?_);clear hF
  refine HC.out.mono ?_
  rintro e w3 ⟨rfl, hb3⟩
  have HB23 : Hid (Below w1.heap.size w1 w3) := HB2.out.trans (hb3.mono HB2.out.size)
  have HB : Hid (Below g w w3) := HB1.out.trans (HB23.out.mono (by omega))
  have d0 := Below.cell_of HB23.out c0
  have d1 := Below.cell_of HB23.out c1
  have d2 := Below.cell_of HB23.out c2
  have d3 := Below.cell_of HB23.out c3
  clear c0 c1 c2 c3 HB1 HB2 HB23 HR HC hb3
  have HE : Hid ([b0, b1, b2, b3].all coordB = (coordB b0 && coordB b1 && coordB b2 && coordB b3)) := by
    simp [Hid, Bool.and_assoc]
  generalize [b0, b1, b2, b3].all coordB = y at *
  have HE2 : Hid ((coordB b0 && coordB b1 && coordB b2 && coordB b3) = y) := HE.out.symm
  clear HE
  cases y
  · refine hK _ _ (fun a hF => ?_);clear hK K;refine seq_ck [10, 11, 12, 13, 14, 15, 16, 17, 18, 19, 20, 21, 22, 23, 24] [] hF fun C hC => ?_;clear hF;refine zm rfl rfl rfl ?_;refine zx rfl ?_;refine zx rfl ?_;refine zx rfl ?_;refine zx rfl ?_;refine zx rfl ?_;refine zs2 13 18 rfl rfl rfl ?_;refine zm rfl rfl rfl ?_;refine zx rfl ?_;refine zx rfl ?_;refine zx rfl ?_;refine zx rfl ?_;refine zx rfl ?_;refine zs2 20 25 rfl rfl rfl ?_;refine za rfl rfl rfl ?_;refine hC _ (fun a hF => ?_);clear hC C;refine seq_end ?_;replace hF := hF.kp [2] rfl;refine hK _ _ ?_;clear hK;(try clear K);refine wp_ret ?_;(try simp only [then_ret, block_ret, goto_ret]);refine ret_fr (fn := Try.f42) (rs := [.tmp 2]) rfl [_] hF ⟨rfl, trivial⟩ ?_
    exact ⟨by rw [HE2.out]; rfl, HB.out⟩
  by_cases h1 : b0 ≤ b2
  rotate_left
  · have hb1 : decide (b0 ≤ b2) = false := decide_eq_false h1
    refine hK _ _ (fun a hF => ?_);clear hK K;refine seq_ck [10, 11, 12, 13, 14, 15, 16, 17, 18, 19, 20, 21, 22, 23, 24] [] hF fun C hC => ?_;clear hF;refine zm rfl rfl rfl ?_;refine zs1 1 rfl rfl ?_;refine zs1 14 rfl rfl ?_;refine zs1 1 rfl rfl ?_;refine zs1 16 rfl rfl ?_;refine zs2 15 17 rfl rfl rfl ?_;refine zs2 13 18 rfl rfl rfl ?_;refine zm rfl rfl rfl ?_;refine zx rfl ?_;refine zx rfl ?_;refine zx rfl ?_;refine zx rfl ?_;refine zx rfl ?_;refine zs2 20 25 rfl rfl rfl ?_;refine za rfl rfl rfl ?_;refine hC _ (fun a hF => ?_);clear hC C;refine seq_end ?_;replace hF := hF.kp [2] rfl;refine hK _ _ ?_;clear hK;(try clear K);refine wp_ret ?_;(try simp only [then_ret, block_ret, goto_ret]);refine ret_fr (fn := Try.f42) (rs := [.tmp 2]) rfl [_] hF ⟨rfl, trivial⟩ ?_
    exact ⟨by rw [HE2.out, hb1]; rfl, HB.out⟩
  have hb1 : decide (b0 ≤ b2) = true := decide_eq_true h1
  refine hK _ _ (fun a hF => ?_);clear hK K;refine seq_ck [10, 11, 12, 13, 14, 15, 16, 17, 18, 19, 20, 21, 22, 23, 24] [] hF fun C hC => ?_;clear hF;refine zm rfl rfl rfl ?_;refine zs1 1 rfl rfl ?_;refine zs1 14 rfl rfl ?_;refine zs1 1 rfl rfl ?_;refine zs1 16 rfl rfl ?_;refine zs2 15 17 rfl rfl rfl ?_;refine zs2 13 18 rfl rfl rfl ?_;refine zm rfl rfl rfl ?_;refine zs1 1 rfl rfl ?_;refine zs1 21 rfl rfl ?_;refine zs1 1 rfl rfl ?_;refine zs1 23 rfl rfl ?_;refine zs2 22 24 rfl rfl rfl ?_;refine zs2 20 25 rfl rfl rfl ?_;refine za rfl rfl rfl ?_;refine hC _ (fun a hF => ?_);clear hC C;refine seq_end ?_;replace hF := hF.kp [2] rfl;refine hK _ _ ?_;clear hK;(try clear K);refine wp_ret ?_;(try simp only [then_ret, block_ret, goto_ret]);refine ret_fr (fn := Try.f42) (rs := [.tmp 2]) rfl [_] hF ⟨rfl, trivial⟩ ?_
  exact ⟨by rw [HE2.out, hb1]; rfl, HB.out⟩
end Go.Proofs.Ytmcdhggnpfhlmaa

namespace Go.Proofs.Ytmcdhggnpfhlmaa
open Go.RowKit

/-- An entry of a list of bools, behind a name that simp does not open. -/
def bx (l : List Bool) (i : Nat) : Bool := l.getD i false

/-- The address and length read as the bools xs. -/
def Bools (w : World) (ra : Option Addr) (n : Nat) (xs : List Bool) : Prop :=
  xs.length = n ∧ ∀ k, k < n → ∃ b o, ra = some ⟨b, o, none⟩ ∧ w.cell? ⟨b, o + k, none⟩ = some (.bool (bx xs k))

theorem Bools.below {w w' : World} {ra : Option Addr} {n : Nat} {xs : List Bool} (h : Bools w ra n xs) (hb : Below w.heap.size w w') : Bools w' ra n xs :=
  ⟨h.1, fun k hk => let ⟨b, o, e, c⟩ := h.2 k hk; ⟨b, o, e, Below.cell_of hb c⟩⟩

def BoolRow (w : World) (g : Nat) (T : TypeId) (D : List Bool) : Prop :=
  ∃ arr : Array Value, w.heap[g]? = some (.cells arr T (0, 0)) ∧ D.length ≤ arr.size ∧ ∀ k, k < D.length → arr[k]? = some (.bool (bx D k))

theorem BoolRow.lt {w : World} {g : Nat} {T : TypeId} {D : List Bool} (h : BoolRow w g T D) : g < w.heap.size :=
  let ⟨_, e, _⟩ := h; lt_of_block e

theorem BoolRow.cell {w : World} {g : Nat} {T : TypeId} {D : List Bool} (h : BoolRow w g T D) (k : Nat) (hk : k < D.length) : w.cell? ⟨g, k, none⟩ = some (.bool (bx D k)) := by
  obtain ⟨arr, e, _, c⟩ := h
  simp only [World.cell?, e]
  exact c k hk

theorem BoolRow.free {w : World} {g : Nat} {T : TypeId} {D : List Bool} (h : BoolRow w g T D) (k : Nat) : w.frozen? ⟨g, k, none⟩ = false := by
  obtain ⟨arr, e, _, c⟩ := h
  simp only [World.frozen?, e]
  simp

theorem bx_set (D : List Bool) (i j : Nat) (v : Bool) (hi : i < D.length) : bx (D.set i v) j = if i = j then v else bx D j := by
  unfold bx
  simp only [List.getD_eq_getElem?_getD, List.getElem?_set, hi, if_true]
  split <;> rfl

theorem BoolRow.set {w : World} {g : Nat} {T : TypeId} {D : List Bool} (h : BoolRow w g T D) (i : Nat) (hi : i < D.length) (v : Bool) : BoolRow (w.setCell ⟨g, i, none⟩ (.bool v)) g T (D.set i v) := by
  obtain ⟨arr, e, s, c⟩ := h
  refine ⟨arr.setIfInBounds i (.bool v), ?_, by simpa using s, fun k hk => ?_⟩
  · simp [World.setCell, Array.getElem?_modify, e]
  · rw [List.length_set] at hk
    rw [Array.getElem?_setIfInBounds, bx_set _ _ _ _ hi]
    by_cases hik : i = k
    · rw [if_pos hik, if_pos hik, if_pos (by omega)]
    · rw [if_neg hik, if_neg hik]; exact c k hk


theorem BoolRow.of_heap {w w' : World} {g : Nat} {T : TypeId} {S : List Bool} (h : BoolRow w g T S) (e : w'.heap[g]? = w.heap[g]?) : BoolRow w' g T S := by
  obtain ⟨arr, e1, r⟩ := h
  exact ⟨arr, e.trans e1, r⟩

theorem BoolRow.bools {w : World} {g : Nat} {T : TypeId} {D : List Bool} (h : BoolRow w g T D) : Bools w (some ⟨g, 0, none⟩) D.length D :=
  ⟨rfl, fun k hk => ⟨g, 0, rfl, by rw [Nat.zero_add]; exact h.cell k hk⟩⟩

theorem BoolRow.made {w : World} {arr : Array Value} {T : TypeId} {n g : Nat} (hg : g = w.heap.size) (hs : arr.size = n) (hz : ∀ k, k < n → arr[k]? = some (.bool false)) : BoolRow (w.alloc (.cells arr T)) g T (List.replicate n false) := by
  subst hg
  refine ⟨arr, ?_, by simp [hs], fun k hk => ?_⟩
  · show (w.heap.push _)[w.heap.size]? = _
    simp
  · rw [List.length_replicate] at hk
    rw [hz k hk]
    simp [bx, List.getD_eq_getElem?_getD, hk]

theorem make_bools (n : Nat) (hn : n ≤ 4000) : ∃ arr : Array Value, arr.size = n ∧ (∀ k, k < n → arr[k]? = some (.bool false)) ∧
    ∀ w : World, (Instr.makeSlice 49 (.int .i64 (n : Int)) (.int .i64 (n : Int))).run Try.prog w = .ok (.slice (some ⟨w.heap.size, 0, none⟩) n n) (w.alloc (.cells arr 4)) := by
  refine ⟨madeCells #[.bool false] n, size_madeCells _ _, fun k hk => ?_, fun w => ?_⟩
  · simp [madeCells, hk, Nat.mod_one]
  · exact run_make_row' 49 4 (.bool false) 1 Try.underlying49 (by kernel_rfl) rfl .i64 .i64 n (by omega) (by omega) w

end Go.Proofs.Ytmcdhggnpfhlmaa
