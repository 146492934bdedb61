/- hall: slices.IndexFunc and slices.ContainsFunc at each type. -/
import Derived.Test.YtmcdhggnpfhlmaaGreatQHMR02

set_option linter.unusedVariables false
set_option linter.unusedSimpArgs false
namespace Go.Proofs.YtmcdhggnpfhlmaaGreat
open Go.RowKit Go.IntWalk
set_option linter.unusedSimpArgs false
set_option linter.unusedVariables false

/-- The first place where p holds, or -1. -/
def idxS {α : Type} (p : α → Bool) (xs : List α) : Int := if xs.findIdx p < xs.length then (xs.findIdx p : Int) else -1

theorem idx_hit {α : Type} {p : α → Bool} {xs : List α} {i : Nat} (hi : i < xs.length) (h : p xs[i] = true) (hb : ∀ j (hj : j < xs.length), j < i → p xs[j] = false) : idxS p xs = i := by
 have e : xs.findIdx p = i := (List.findIdx_eq hi).2 ⟨h, fun j hj => by simpa using hb j (by omega) hj⟩
 unfold idxS
 rw [e, if_pos hi]
theorem idx_none {α : Type} {p : α → Bool} {xs : List α} (hb : ∀ j (hj : j < xs.length), p xs[j] = false) : idxS p xs = -1 := by
 unfold idxS
 rw [if_neg]
 rw [List.findIdx_lt_length]
 rintro ⟨x, hx, hp⟩
 obtain ⟨j, hj, rfl⟩ := List.getElem_of_mem hx
 rw [hb j hj] at hp
 cases hp
theorem idx_any {α : Type} (p : α → Bool) (xs : List α) : decide (0 ≤ idxS p xs) = xs.any p := by
 unfold idxS
 by_cases h : xs.findIdx p < xs.length
 ·
  rw [if_pos h]
  have := List.findIdx_lt_length.1 h
  rw [decide_eq_true (by omega)]
  exact (List.any_eq_true.2 this).symm
 ·
  rw [if_neg h]
  cases hx : xs.any p
  ·
   rfl
  ·
   exact absurd (List.findIdx_lt_length.2 (List.any_eq_true.1 hx)) h

set_option maxRecDepth 100000 in
theorem index_lev (w : World) (ra : Option Addr) (n c : Nat) (xs : List LevR) (h : Recs LevE w ra n xs) (hn : n ≤ 9223372036854775807) (fid : FuncId) (cap : List Value) (p : LevR → Bool) (hpl : plainB Tryz.prog fid = true)
  (hf : ∀ wx, Below w.heap.size w wx → ∀ i (hi : i < xs.length), Calls Tryz.prog fid (.agg #[.string (bs xs[i].name), .int .i64 xs[i].height, .slice xs[i].ba xs[i].bn xs[i].bc, .slice xs[i].aa xs[i].an xs[i].ac, .slice xs[i].sa xs[i].sn xs[i].sc, .slice xs[i].pa xs[i].pn xs[i].pc, .slice xs[i].da xs[i].dn xs[i].dc, .int .i64 xs[i].at'] :: cap).toArray wx fun e w' => e = .returned (.bool (p xs[i])) ∧ Below wx.heap.size wx w') :
  Calls Tryz.prog 35 #[.slice ra n c, .func (.func fid) #[] cap.toArray] w fun e w' => e = .returned (.int .i64 (idxS p xs)) ∧ Below w.heap.size w w' := by
 obtain rfl : xs.length = n := h.1
 have HR := Lib.hid h
 have HF := Lib.hid hf
 clear h hf
 refine enter_fr (N := 19) [.slice ra xs.length c, .func (.func fid) #[] cap.toArray] (Tryz.func35) rfl Tryz.ntmps35 (by rfl) (fun a hF => ?_);replace hF := hF.kp [0, 1] rfl;revert hF;refine zrs [2] [0, 1] fun a hF => ?_;refine wp_seq_k (fun KA hKA => ?_);revert hF;refine zrs [1, 4, 1] [0, 1, 7, 8] fun a hF => ?_
 refine wp_block ?_
 refine loop_fr (fun k a' w' => ∃ i : Nat, i + k = xs.length ∧ FrF 19 [] [(0, .slice ra xs.length c), (1, .func (.func fid) #[] cap.toArray), (7, .int .i64 xs.length), (8, .int .i64 i)] a' ∧ Hid (Below w.heap.size w w') ∧ Hid (∀ j (hj : j < xs.length), j < i → p xs[j] = false)) xs.length ⟨0, by omega, hF, Below.refl _ _, fun j _ hj => absurd hj (Nat.not_lt_zero _)⟩ ?_
 clear hF
 rintro rk a wr ⟨i, hik, hF, HB, HP⟩ KB hKB
 by_cases hlt : i < xs.length
 rotate_left
 ·
  revert hF;refine zrs [5] [0, 1, 7, 8, 9] fun a hF => ?_;refine wp_seq_k (fun K hK => ?_)
  refine cond_no hF rfl ?_
  refine wp_exit ?_
  refine hKA _ _ ?_;clear hKA;revert hF;refine zrs [2] [4] fun a hF => ?_;refine wp_ret ?_;(try simp only [then_ret, block_ret, goto_ret]);revert hF;refine zq ?_
  exact ⟨by rw [idx_none fun j hj => HP.out j hj (by omega)]; rfl, HB.out⟩
 revert hF;refine zrs [5] [0, 1, 7, 8, 9] fun a hF => ?_;refine wp_seq_k (fun K hK => ?_)
 refine cond_yes hF rfl ?_
 refine wp_skip ?_
 refine hK _ _ ?_;clear hK;replace hF := hF.kp [0, 1, 7, 8] rfl;refine wp_seq_k (fun K hK => ?_)
 refine wp_block ?_
 revert hF;refine zrs [1, 2] [0, 1, 5, 7, 8] fun a hF => ?_
 obtain ⟨b, o, rfl, c0, c1, c2, c3, c4, c5, c6, c7⟩ := lev_at (HR.out.below HB.out) i hlt hlt
 have hki : (i : Int) < xs.length := by omega
 have HFI := Lib.hid (HF.out wr HB.out i hlt)
 have HPI : Hid (p xs[i] = false → ∀ j (hj : j < xs.length), j < i + 1 → p xs[j] = false) := fun he j hj hji => by
  by_cases e : j = i
  ·
   subst e; exact he
  ·
   exact HP.out j hj (by omega)
 have HPH : Hid (p xs[i] = true → idxS p xs = i) := fun he => idx_hit hlt he HP.out
 generalize xs[i] = x at *
 generalize p x = px at *
 refine wp_seq_k (fun K hK => ?_);revert hF;refine zrp [1, 1, 1, 5, 4] [5] fun a hF => ?_;refine seq_one ?_;refine op_callv [_] _ _ rfl rfl hF rfl rfl (by first | assumption | kernel_rfl) ⟨rfl, trivial⟩ (fun K hK => ?_);clear hF
 refine HFI.out.mono ?_
 rintro e w' ⟨rfl, hb⟩
 clear HFI c0 c1 c2 c3 c4 c5 c6 c7
 have HB2 : Hid (Below w.heap.size w w') := HB.out.trans (hb.mono HB.out.size)
 clear hb HB
 cases px
 ·
  refine hK _ _ (fun a hF => ?_);clear hK K;refine seq_end ?_;replace hF := hF.kp [0, 1, 5, 7, 8, 16] rfl;refine hK _ _ ?_;clear hK
  refine cond_no hF rfl ?_
  refine wp_skip ?_
  refine hK _ _ ?_
  clear hK
  have hws : IntKind.i64.wrap ((i : Int) + 1) = ((i + 1 : Nat) : Int) := wrap_succ (by omega)
  revert hF;refine zrg [4, 1] [0, 1, 7, 8] fun a hF => ?_
  exact hKB (xs.length - (i + 1)) _ _ (by omega) ⟨i + 1, by omega, hF, HB2, HPI.out rfl⟩
 ·
  refine hK _ _ (fun a hF => ?_);clear hK K;refine seq_end ?_;replace hF := hF.kp [0, 1, 5, 7, 8, 16] rfl;refine hK _ _ ?_;clear hK
  refine cond_yes hF rfl ?_
  revert hF;refine zrs [1, 2] [4] fun a hF => ?_;refine wp_ret ?_;(try simp only [then_ret, block_ret, goto_ret]);revert hF;refine zq ?_
  exact ⟨by rw [HPH.out rfl]; rfl, HB2.out⟩

set_option maxRecDepth 100000 in
theorem index_blk (w : World) (ra : Option Addr) (n c : Nat) (xs : List BlkR) (h : Recs BlkE w ra n xs) (hn : n ≤ 9223372036854775807) (fid : FuncId) (cap : List Value) (p : BlkR → Bool) (hpl : plainB Tryz.prog fid = true)
  (hf : ∀ wx, Below w.heap.size w wx → ∀ i (hi : i < xs.length), Calls Tryz.prog fid (.agg #[.string (bs xs[i].name), .slice xs[i].ra xs[i].rn xs[i].rc, .int .i64 xs[i].at'] :: cap).toArray wx fun e w' => e = .returned (.bool (p xs[i])) ∧ Below wx.heap.size wx w') :
  Calls Tryz.prog 42 #[.slice ra n c, .func (.func fid) #[] cap.toArray] w fun e w' => e = .returned (.int .i64 (idxS p xs)) ∧ Below w.heap.size w w' := by
 obtain rfl : xs.length = n := h.1
 have HR := Lib.hid h
 have HF := Lib.hid hf
 clear h hf
 refine enter_fr (N := 19) [.slice ra xs.length c, .func (.func fid) #[] cap.toArray] (Tryz.func42) rfl Tryz.ntmps42 (by rfl) (fun a hF => ?_);replace hF := hF.kp [0, 1] rfl;revert hF;refine zrs [2] [0, 1] fun a hF => ?_;refine wp_seq_k (fun KA hKA => ?_);revert hF;refine zrs [1, 4, 1] [0, 1, 7, 8] fun a hF => ?_
 refine wp_block ?_
 refine loop_fr (fun k a' w' => ∃ i : Nat, i + k = xs.length ∧ FrF 19 [] [(0, .slice ra xs.length c), (1, .func (.func fid) #[] cap.toArray), (7, .int .i64 xs.length), (8, .int .i64 i)] a' ∧ Hid (Below w.heap.size w w') ∧ Hid (∀ j (hj : j < xs.length), j < i → p xs[j] = false)) xs.length ⟨0, by omega, hF, Below.refl _ _, fun j _ hj => absurd hj (Nat.not_lt_zero _)⟩ ?_
 clear hF
 rintro rk a wr ⟨i, hik, hF, HB, HP⟩ KB hKB
 by_cases hlt : i < xs.length
 rotate_left
 ·
  revert hF;refine zrs [5] [0, 1, 7, 8, 9] fun a hF => ?_;refine wp_seq_k (fun K hK => ?_)
  refine cond_no hF rfl ?_
  refine wp_exit ?_
  refine hKA _ _ ?_;clear hKA;revert hF;refine zrs [2] [4] fun a hF => ?_;refine wp_ret ?_;(try simp only [then_ret, block_ret, goto_ret]);revert hF;refine zq ?_
  exact ⟨by rw [idx_none fun j hj => HP.out j hj (by omega)]; rfl, HB.out⟩
 revert hF;refine zrs [5] [0, 1, 7, 8, 9] fun a hF => ?_;refine wp_seq_k (fun K hK => ?_)
 refine cond_yes hF rfl ?_
 refine wp_skip ?_
 refine hK _ _ ?_;clear hK;replace hF := hF.kp [0, 1, 7, 8] rfl;refine wp_seq_k (fun K hK => ?_)
 refine wp_block ?_
 revert hF;refine zrs [1, 2] [0, 1, 5, 7, 8] fun a hF => ?_
 obtain ⟨b, o, rfl, c0, c1, c2⟩ := blk_at (HR.out.below HB.out) i hlt hlt
 have hki : (i : Int) < xs.length := by omega
 have HFI := Lib.hid (HF.out wr HB.out i hlt)
 have HPI : Hid (p xs[i] = false → ∀ j (hj : j < xs.length), j < i + 1 → p xs[j] = false) := fun he j hj hji => by
  by_cases e : j = i
  ·
   subst e; exact he
  ·
   exact HP.out j hj (by omega)
 have HPH : Hid (p xs[i] = true → idxS p xs = i) := fun he => idx_hit hlt he HP.out
 generalize xs[i] = x at *
 generalize p x = px at *
 refine wp_seq_k (fun K hK => ?_);revert hF;refine zrp [1, 1, 1, 5, 4] [5] fun a hF => ?_;refine seq_one ?_;refine op_callv [_] _ _ rfl rfl hF rfl rfl (by first | assumption | kernel_rfl) ⟨rfl, trivial⟩ (fun K hK => ?_);clear hF
 refine HFI.out.mono ?_
 rintro e w' ⟨rfl, hb⟩
 clear HFI c0 c1 c2
 have HB2 : Hid (Below w.heap.size w w') := HB.out.trans (hb.mono HB.out.size)
 clear hb HB
 cases px
 ·
  refine hK _ _ (fun a hF => ?_);clear hK K;refine seq_end ?_;replace hF := hF.kp [0, 1, 5, 7, 8, 16] rfl;refine hK _ _ ?_;clear hK
  refine cond_no hF rfl ?_
  refine wp_skip ?_
  refine hK _ _ ?_
  clear hK
  have hws : IntKind.i64.wrap ((i : Int) + 1) = ((i + 1 : Nat) : Int) := wrap_succ (by omega)
  revert hF;refine zrg [4, 1] [0, 1, 7, 8] fun a hF => ?_
  exact hKB (xs.length - (i + 1)) _ _ (by omega) ⟨i + 1, by omega, hF, HB2, HPI.out rfl⟩
 ·
  refine hK _ _ (fun a hF => ?_);clear hK K;refine seq_end ?_;replace hF := hF.kp [0, 1, 5, 7, 8, 16] rfl;refine hK _ _ ?_;clear hK
  refine cond_yes hF rfl ?_
  revert hF;refine zrs [1, 2] [4] fun a hF => ?_;refine wp_ret ?_;(try simp only [then_ret, block_ret, goto_ret]);revert hF;refine zq ?_
  exact ⟨by rw [HPH.out rfl]; rfl, HB2.out⟩

set_option maxRecDepth 100000 in
theorem index_row (w : World) (ra : Option Addr) (n c : Nat) (xs : List RowR) (h : Recs RowE w ra n xs) (hn : n ≤ 9223372036854775807) (fid : FuncId) (cap : List Value) (p : RowR → Bool) (hpl : plainB Tryz.prog fid = true)
  (hf : ∀ wx, Below w.heap.size w wx → ∀ i (hi : i < xs.length), Calls Tryz.prog fid (.agg #[.string (bs xs[i].name), .int .i64 xs[i].x, .int .i64 xs[i].y, .int .i64 xs[i].fr, .int .i64 xs[i].to, .int .i64 xs[i].step, .slice xs[i].ma xs[i].mn xs[i].mc, .int .i64 xs[i].at'] :: cap).toArray wx fun e w' => e = .returned (.bool (p xs[i])) ∧ Below wx.heap.size wx w') :
  Calls Tryz.prog 44 #[.slice ra n c, .func (.func fid) #[] cap.toArray] w fun e w' => e = .returned (.int .i64 (idxS p xs)) ∧ Below w.heap.size w w' := by
 obtain rfl : xs.length = n := h.1
 have HR := Lib.hid h
 have HF := Lib.hid hf
 clear h hf
 refine enter_fr (N := 19) [.slice ra xs.length c, .func (.func fid) #[] cap.toArray] (Tryz.func44) rfl Tryz.ntmps44 (by rfl) (fun a hF => ?_);replace hF := hF.kp [0, 1] rfl;revert hF;refine zrs [2] [0, 1] fun a hF => ?_;refine wp_seq_k (fun KA hKA => ?_);revert hF;refine zrs [1, 4, 1] [0, 1, 7, 8] fun a hF => ?_
 refine wp_block ?_
 refine loop_fr (fun k a' w' => ∃ i : Nat, i + k = xs.length ∧ FrF 19 [] [(0, .slice ra xs.length c), (1, .func (.func fid) #[] cap.toArray), (7, .int .i64 xs.length), (8, .int .i64 i)] a' ∧ Hid (Below w.heap.size w w') ∧ Hid (∀ j (hj : j < xs.length), j < i → p xs[j] = false)) xs.length ⟨0, by omega, hF, Below.refl _ _, fun j _ hj => absurd hj (Nat.not_lt_zero _)⟩ ?_
 clear hF
 rintro rk a wr ⟨i, hik, hF, HB, HP⟩ KB hKB
 by_cases hlt : i < xs.length
 rotate_left
 ·
  revert hF;refine zrs [5] [0, 1, 7, 8, 9] fun a hF => ?_;refine wp_seq_k (fun K hK => ?_)
  refine cond_no hF rfl ?_
  refine wp_exit ?_
  refine hKA _ _ ?_;clear hKA;revert hF;refine zrs [2] [4] fun a hF => ?_;refine wp_ret ?_;(try simp only [then_ret, block_ret, goto_ret]);revert hF;refine zq ?_
  exact ⟨by rw [idx_none fun j hj => HP.out j hj (by omega)]; rfl, HB.out⟩
 revert hF;refine zrs [5] [0, 1, 7, 8, 9] fun a hF => ?_;refine wp_seq_k (fun K hK => ?_)
 refine cond_yes hF rfl ?_
 refine wp_skip ?_
 refine hK _ _ ?_;clear hK;replace hF := hF.kp [0, 1, 7, 8] rfl;refine wp_seq_k (fun K hK => ?_)
 refine wp_block ?_
 revert hF;refine zrs [1, 2] [0, 1, 5, 7, 8] fun a hF => ?_
 obtain ⟨b, o, rfl, c0, c1, c2, c3, c4, c5, c6, c7⟩ := row_at (HR.out.below HB.out) i hlt hlt
 have hki : (i : Int) < xs.length := by omega
 have HFI := Lib.hid (HF.out wr HB.out i hlt)
 have HPI : Hid (p xs[i] = false → ∀ j (hj : j < xs.length), j < i + 1 → p xs[j] = false) := fun he j hj hji => by
  by_cases e : j = i
  ·
   subst e; exact he
  ·
   exact HP.out j hj (by omega)
 have HPH : Hid (p xs[i] = true → idxS p xs = i) := fun he => idx_hit hlt he HP.out
 generalize xs[i] = x at *
 generalize p x = px at *
 refine wp_seq_k (fun K hK => ?_);revert hF;refine zrp [1, 1, 1, 5, 4] [5] fun a hF => ?_;refine seq_one ?_;refine op_callv [_] _ _ rfl rfl hF rfl rfl (by first | assumption | kernel_rfl) ⟨rfl, trivial⟩ (fun K hK => ?_);clear hF
 refine HFI.out.mono ?_
 rintro e w' ⟨rfl, hb⟩
 clear HFI c0 c1 c2 c3 c4 c5 c6 c7
 have HB2 : Hid (Below w.heap.size w w') := HB.out.trans (hb.mono HB.out.size)
 clear hb HB
 cases px
 ·
  refine hK _ _ (fun a hF => ?_);clear hK K;refine seq_end ?_;replace hF := hF.kp [0, 1, 5, 7, 8, 16] rfl;refine hK _ _ ?_;clear hK
  refine cond_no hF rfl ?_
  refine wp_skip ?_
  refine hK _ _ ?_
  clear hK
  have hws : IntKind.i64.wrap ((i : Int) + 1) = ((i + 1 : Nat) : Int) := wrap_succ (by omega)
  revert hF;refine zrg [4, 1] [0, 1, 7, 8] fun a hF => ?_
  exact hKB (xs.length - (i + 1)) _ _ (by omega) ⟨i + 1, by omega, hF, HB2, HPI.out rfl⟩
 ·
  refine hK _ _ (fun a hF => ?_);clear hK K;refine seq_end ?_;replace hF := hF.kp [0, 1, 5, 7, 8, 16] rfl;refine hK _ _ ?_;clear hK
  refine cond_yes hF rfl ?_
  revert hF;refine zrs [1, 2] [4] fun a hF => ?_;refine wp_ret ?_;(try simp only [then_ret, block_ret, goto_ret]);revert hF;refine zq ?_
  exact ⟨by rw [HPH.out rfl]; rfl, HB2.out⟩

set_option maxRecDepth 100000 in
theorem index_area (w : World) (ra : Option Addr) (n c : Nat) (xs : List AreaR) (h : Recs AreaE w ra n xs) (hn : n ≤ 9223372036854775807) (fid : FuncId) (cap : List Value) (p : AreaR → Bool) (hpl : plainB Tryz.prog fid = true)
  (hf : ∀ wx, Below w.heap.size w wx → ∀ i (hi : i < xs.length), Calls Tryz.prog fid (.agg #[.string (bs xs[i].name), .int .i64 xs[i].box.x, .int .i64 xs[i].box.y, .int .i64 xs[i].box.x2, .int .i64 xs[i].box.y2, .int .i64 xs[i].holds, .int .i64 xs[i].at'] :: cap).toArray wx fun e w' => e = .returned (.bool (p xs[i])) ∧ Below wx.heap.size wx w') :
  Calls Tryz.prog 49 #[.slice ra n c, .func (.func fid) #[] cap.toArray] w fun e w' => e = .returned (.int .i64 (idxS p xs)) ∧ Below w.heap.size w w' := by
 obtain rfl : xs.length = n := h.1
 have HR := Lib.hid h
 have HF := Lib.hid hf
 clear h hf
 refine enter_fr (N := 19) [.slice ra xs.length c, .func (.func fid) #[] cap.toArray] (Tryz.func49) rfl Tryz.ntmps49 (by rfl) (fun a hF => ?_);replace hF := hF.kp [0, 1] rfl;revert hF;refine zrs [2] [0, 1] fun a hF => ?_;refine wp_seq_k (fun KA hKA => ?_);revert hF;refine zrs [1, 4, 1] [0, 1, 7, 8] fun a hF => ?_
 refine wp_block ?_
 refine loop_fr (fun k a' w' => ∃ i : Nat, i + k = xs.length ∧ FrF 19 [] [(0, .slice ra xs.length c), (1, .func (.func fid) #[] cap.toArray), (7, .int .i64 xs.length), (8, .int .i64 i)] a' ∧ Hid (Below w.heap.size w w') ∧ Hid (∀ j (hj : j < xs.length), j < i → p xs[j] = false)) xs.length ⟨0, by omega, hF, Below.refl _ _, fun j _ hj => absurd hj (Nat.not_lt_zero _)⟩ ?_
 clear hF
 rintro rk a wr ⟨i, hik, hF, HB, HP⟩ KB hKB
 by_cases hlt : i < xs.length
 rotate_left
 ·
  revert hF;refine zrs [5] [0, 1, 7, 8, 9] fun a hF => ?_;refine wp_seq_k (fun K hK => ?_)
  refine cond_no hF rfl ?_
  refine wp_exit ?_
  refine hKA _ _ ?_;clear hKA;revert hF;refine zrs [2] [4] fun a hF => ?_;refine wp_ret ?_;(try simp only [then_ret, block_ret, goto_ret]);revert hF;refine zq ?_
  exact ⟨by rw [idx_none fun j hj => HP.out j hj (by omega)]; rfl, HB.out⟩
 revert hF;refine zrs [5] [0, 1, 7, 8, 9] fun a hF => ?_;refine wp_seq_k (fun K hK => ?_)
 refine cond_yes hF rfl ?_
 refine wp_skip ?_
 refine hK _ _ ?_;clear hK;replace hF := hF.kp [0, 1, 7, 8] rfl;refine wp_seq_k (fun K hK => ?_)
 refine wp_block ?_
 revert hF;refine zrs [1, 2] [0, 1, 5, 7, 8] fun a hF => ?_
 obtain ⟨b, o, rfl, c0, c1, c2, c3, c4, c5, c6⟩ := area_at (HR.out.below HB.out) i hlt hlt
 have hki : (i : Int) < xs.length := by omega
 have HFI := Lib.hid (HF.out wr HB.out i hlt)
 have HPI : Hid (p xs[i] = false → ∀ j (hj : j < xs.length), j < i + 1 → p xs[j] = false) := fun he j hj hji => by
  by_cases e : j = i
  ·
   subst e; exact he
  ·
   exact HP.out j hj (by omega)
 have HPH : Hid (p xs[i] = true → idxS p xs = i) := fun he => idx_hit hlt he HP.out
 generalize xs[i] = x at *
 generalize p x = px at *
 refine wp_seq_k (fun K hK => ?_);revert hF;refine zrp [1, 1, 1, 5, 4] [5] fun a hF => ?_;refine seq_one ?_;refine op_callv [_] _ _ rfl rfl hF rfl rfl (by first | assumption | kernel_rfl) ⟨rfl, trivial⟩ (fun K hK => ?_);clear hF
 refine HFI.out.mono ?_
 rintro e w' ⟨rfl, hb⟩
 clear HFI c0 c1 c2 c3 c4 c5 c6
 have HB2 : Hid (Below w.heap.size w w') := HB.out.trans (hb.mono HB.out.size)
 clear hb HB
 cases px
 ·
  refine hK _ _ (fun a hF => ?_);clear hK K;refine seq_end ?_;replace hF := hF.kp [0, 1, 5, 7, 8, 16] rfl;refine hK _ _ ?_;clear hK
  refine cond_no hF rfl ?_
  refine wp_skip ?_
  refine hK _ _ ?_
  clear hK
  have hws : IntKind.i64.wrap ((i : Int) + 1) = ((i + 1 : Nat) : Int) := wrap_succ (by omega)
  revert hF;refine zrg [4, 1] [0, 1, 7, 8] fun a hF => ?_
  exact hKB (xs.length - (i + 1)) _ _ (by omega) ⟨i + 1, by omega, hF, HB2, HPI.out rfl⟩
 ·
  refine hK _ _ (fun a hF => ?_);clear hK K;refine seq_end ?_;replace hF := hF.kp [0, 1, 5, 7, 8, 16] rfl;refine hK _ _ ?_;clear hK
  refine cond_yes hF rfl ?_
  revert hF;refine zrs [1, 2] [4] fun a hF => ?_;refine wp_ret ?_;(try simp only [then_ret, block_ret, goto_ret]);revert hF;refine zq ?_
  exact ⟨by rw [HPH.out rfl]; rfl, HB2.out⟩

set_option maxRecDepth 100000 in
theorem index_pnt (w : World) (ra : Option Addr) (n c : Nat) (xs : List PntR) (h : Recs PntE w ra n xs) (hn : n ≤ 9223372036854775807) (fid : FuncId) (cap : List Value) (p : PntR → Bool) (hpl : plainB Tryz.prog fid = true)
  (hf : ∀ wx, Below w.heap.size w wx → ∀ i (hi : i < xs.length), Calls Tryz.prog fid (.agg #[.int .i64 xs[i].x, .int .i64 xs[i].y] :: cap).toArray wx fun e w' => e = .returned (.bool (p xs[i])) ∧ Below wx.heap.size wx w') :
  Calls Tryz.prog 72 #[.slice ra n c, .func (.func fid) #[] cap.toArray] w fun e w' => e = .returned (.int .i64 (idxS p xs)) ∧ Below w.heap.size w w' := by
 obtain rfl : xs.length = n := h.1
 have HR := Lib.hid h
 have HF := Lib.hid hf
 clear h hf
 refine enter_fr (N := 19) [.slice ra xs.length c, .func (.func fid) #[] cap.toArray] (Tryz.func72) rfl Tryz.ntmps72 (by rfl) (fun a hF => ?_);replace hF := hF.kp [0, 1] rfl;revert hF;refine zrs [2] [0, 1] fun a hF => ?_;refine wp_seq_k (fun KA hKA => ?_);revert hF;refine zrs [1, 4, 1] [0, 1, 7, 8] fun a hF => ?_
 refine wp_block ?_
 refine loop_fr (fun k a' w' => ∃ i : Nat, i + k = xs.length ∧ FrF 19 [] [(0, .slice ra xs.length c), (1, .func (.func fid) #[] cap.toArray), (7, .int .i64 xs.length), (8, .int .i64 i)] a' ∧ Hid (Below w.heap.size w w') ∧ Hid (∀ j (hj : j < xs.length), j < i → p xs[j] = false)) xs.length ⟨0, by omega, hF, Below.refl _ _, fun j _ hj => absurd hj (Nat.not_lt_zero _)⟩ ?_
 clear hF
 rintro rk a wr ⟨i, hik, hF, HB, HP⟩ KB hKB
 by_cases hlt : i < xs.length
 rotate_left
 ·
  revert hF;refine zrs [5] [0, 1, 7, 8, 9] fun a hF => ?_;refine wp_seq_k (fun K hK => ?_)
  refine cond_no hF rfl ?_
  refine wp_exit ?_
  refine hKA _ _ ?_;clear hKA;revert hF;refine zrs [2] [4] fun a hF => ?_;refine wp_ret ?_;(try simp only [then_ret, block_ret, goto_ret]);revert hF;refine zq ?_
  exact ⟨by rw [idx_none fun j hj => HP.out j hj (by omega)]; rfl, HB.out⟩
 revert hF;refine zrs [5] [0, 1, 7, 8, 9] fun a hF => ?_;refine wp_seq_k (fun K hK => ?_)
 refine cond_yes hF rfl ?_
 refine wp_skip ?_
 refine hK _ _ ?_;clear hK;replace hF := hF.kp [0, 1, 7, 8] rfl;refine wp_seq_k (fun K hK => ?_)
 refine wp_block ?_
 revert hF;refine zrs [1, 2] [0, 1, 5, 7, 8] fun a hF => ?_
 obtain ⟨b, o, rfl, c0, c1⟩ := pnt_at (HR.out.below HB.out) i hlt hlt
 have hki : (i : Int) < xs.length := by omega
 have HFI := Lib.hid (HF.out wr HB.out i hlt)
 have HPI : Hid (p xs[i] = false → ∀ j (hj : j < xs.length), j < i + 1 → p xs[j] = false) := fun he j hj hji => by
  by_cases e : j = i
  ·
   subst e; exact he
  ·
   exact HP.out j hj (by omega)
 have HPH : Hid (p xs[i] = true → idxS p xs = i) := fun he => idx_hit hlt he HP.out
 generalize xs[i] = x at *
 generalize p x = px at *
 refine wp_seq_k (fun K hK => ?_);revert hF;refine zrp [1, 1, 1, 5, 4] [5] fun a hF => ?_;refine seq_one ?_;refine op_callv [_] _ _ rfl rfl hF rfl rfl (by first | assumption | kernel_rfl) ⟨rfl, trivial⟩ (fun K hK => ?_);clear hF
 refine HFI.out.mono ?_
 rintro e w' ⟨rfl, hb⟩
 clear HFI c0 c1
 have HB2 : Hid (Below w.heap.size w w') := HB.out.trans (hb.mono HB.out.size)
 clear hb HB
 cases px
 ·
  refine hK _ _ (fun a hF => ?_);clear hK K;refine seq_end ?_;replace hF := hF.kp [0, 1, 5, 7, 8, 16] rfl;refine hK _ _ ?_;clear hK
  refine cond_no hF rfl ?_
  refine wp_skip ?_
  refine hK _ _ ?_
  clear hK
  have hws : IntKind.i64.wrap ((i : Int) + 1) = ((i + 1 : Nat) : Int) := wrap_succ (by omega)
  revert hF;refine zrg [4, 1] [0, 1, 7, 8] fun a hF => ?_
  exact hKB (xs.length - (i + 1)) _ _ (by omega) ⟨i + 1, by omega, hF, HB2, HPI.out rfl⟩
 ·
  refine hK _ _ (fun a hF => ?_);clear hK K;refine seq_end ?_;replace hF := hF.kp [0, 1, 5, 7, 8, 16] rfl;refine hK _ _ ?_;clear hK
  refine cond_yes hF rfl ?_
  revert hF;refine zrs [1, 2] [4] fun a hF => ?_;refine wp_ret ?_;(try simp only [then_ret, block_ret, goto_ret]);revert hF;refine zq ?_
  exact ⟨by rw [HPH.out rfl]; rfl, HB2.out⟩

set_option maxRecDepth 100000 in
theorem contains_pnt (w : World) (ra : Option Addr) (n c : Nat) (xs : List PntR) (h : Recs PntE w ra n xs) (hn : n ≤ 9223372036854775807) (fid : FuncId) (cap : List Value) (p : PntR → Bool) (hpl : plainB Tryz.prog fid = true)
  (hf : ∀ wx, Below w.heap.size w wx → ∀ i (hi : i < xs.length), Calls Tryz.prog fid (.agg #[.int .i64 xs[i].x, .int .i64 xs[i].y] :: cap).toArray wx fun e w' => e = .returned (.bool (p xs[i])) ∧ Below wx.heap.size wx w') :
  Calls Tryz.prog 30 #[.slice ra n c, .func (.func fid) #[] cap.toArray] w fun e w' => e = .returned (.bool (xs.any p)) ∧ Below w.heap.size w w' := by
 have HC := Lib.hid (index_pnt w ra n c xs h hn fid cap p hpl hf)
 have HA := Lib.hid (idx_any p xs)
 clear h hf
 generalize idxS p xs = r at *
 generalize xs.any p = y at *
 have HA2 := HA.out
 clear HA
 refine enter_fr (N := 9) [.slice ra n c, .func (.func fid) #[] cap.toArray] (Tryz.func30) rfl Tryz.ntmps30 (by rfl) (fun a hF => ?_);replace hF := hF.kp [0, 1] rfl;revert hF;refine zrs [2] [0, 1] fun a hF => ?_;refine wp_seq_k (fun K hK => ?_);revert hF;refine zrp [1, 1] [2, 3, 4] fun a hF => ?_;revert hF;refine zos fun K hK => ?_
 refine HC.out.mono ?_
 rintro e w' ⟨rfl, hb⟩
 clear HC
 refine hK _ _ (fun a hF => ?_);clear hK K;revert hF;refine zre 3 [4, 2] [4] fun a hF => ?_;refine hK _ _ ?_;clear hK;refine wp_ret ?_;(try simp only [then_ret, block_ret, goto_ret]);revert hF;refine zq ?_
 exact ⟨rfl, hb⟩

set_option maxRecDepth 100000 in
theorem index_box (w : World) (ra : Option Addr) (n c : Nat) (xs : List BoxR) (h : Recs BoxE w ra n xs) (hn : n ≤ 9223372036854775807) (fid : FuncId) (cap : List Value) (p : BoxR → Bool) (hpl : plainB Tryz.prog fid = true)
  (hf : ∀ wx, Below w.heap.size w wx → ∀ i (hi : i < xs.length), Calls Tryz.prog fid (.agg #[.int .i64 xs[i].x, .int .i64 xs[i].y, .int .i64 xs[i].x2, .int .i64 xs[i].y2] :: cap).toArray wx fun e w' => e = .returned (.bool (p xs[i])) ∧ Below wx.heap.size wx w') :
  Calls Tryz.prog 74 #[.slice ra n c, .func (.func fid) #[] cap.toArray] w fun e w' => e = .returned (.int .i64 (idxS p xs)) ∧ Below w.heap.size w w' := by
 obtain rfl : xs.length = n := h.1
 have HR := Lib.hid h
 have HF := Lib.hid hf
 clear h hf
 refine enter_fr (N := 19) [.slice ra xs.length c, .func (.func fid) #[] cap.toArray] (Tryz.func74) rfl Tryz.ntmps74 (by rfl) (fun a hF => ?_);replace hF := hF.kp [0, 1] rfl;revert hF;refine zrs [2] [0, 1] fun a hF => ?_;refine wp_seq_k (fun KA hKA => ?_);revert hF;refine zrs [1, 4, 1] [0, 1, 7, 8] fun a hF => ?_
 refine wp_block ?_
 refine loop_fr (fun k a' w' => ∃ i : Nat, i + k = xs.length ∧ FrF 19 [] [(0, .slice ra xs.length c), (1, .func (.func fid) #[] cap.toArray), (7, .int .i64 xs.length), (8, .int .i64 i)] a' ∧ Hid (Below w.heap.size w w') ∧ Hid (∀ j (hj : j < xs.length), j < i → p xs[j] = false)) xs.length ⟨0, by omega, hF, Below.refl _ _, fun j _ hj => absurd hj (Nat.not_lt_zero _)⟩ ?_
 clear hF
 rintro rk a wr ⟨i, hik, hF, HB, HP⟩ KB hKB
 by_cases hlt : i < xs.length
 rotate_left
 ·
  revert hF;refine zrs [5] [0, 1, 7, 8, 9] fun a hF => ?_;refine wp_seq_k (fun K hK => ?_)
  refine cond_no hF rfl ?_
  refine wp_exit ?_
  refine hKA _ _ ?_;clear hKA;revert hF;refine zrs [2] [4] fun a hF => ?_;refine wp_ret ?_;(try simp only [then_ret, block_ret, goto_ret]);revert hF;refine zq ?_
  exact ⟨by rw [idx_none fun j hj => HP.out j hj (by omega)]; rfl, HB.out⟩
 revert hF;refine zrs [5] [0, 1, 7, 8, 9] fun a hF => ?_;refine wp_seq_k (fun K hK => ?_)
 refine cond_yes hF rfl ?_
 refine wp_skip ?_
 refine hK _ _ ?_;clear hK;replace hF := hF.kp [0, 1, 7, 8] rfl;refine wp_seq_k (fun K hK => ?_)
 refine wp_block ?_
 revert hF;refine zrs [1, 2] [0, 1, 5, 7, 8] fun a hF => ?_
 obtain ⟨b, o, rfl, c0, c1, c2, c3⟩ := box_at (HR.out.below HB.out) i hlt hlt
 have hki : (i : Int) < xs.length := by omega
 have HFI := Lib.hid (HF.out wr HB.out i hlt)
 have HPI : Hid (p xs[i] = false → ∀ j (hj : j < xs.length), j < i + 1 → p xs[j] = false) := fun he j hj hji => by
  by_cases e : j = i
  ·
   subst e; exact he
  ·
   exact HP.out j hj (by omega)
 have HPH : Hid (p xs[i] = true → idxS p xs = i) := fun he => idx_hit hlt he HP.out
 generalize xs[i] = x at *
 generalize p x = px at *
 refine wp_seq_k (fun K hK => ?_);revert hF;refine zrp [1, 1, 1, 5, 4] [5] fun a hF => ?_;refine seq_one ?_;refine op_callv [_] _ _ rfl rfl hF rfl rfl (by first | assumption | kernel_rfl) ⟨rfl, trivial⟩ (fun K hK => ?_);clear hF
 refine HFI.out.mono ?_
 rintro e w' ⟨rfl, hb⟩
 clear HFI c0 c1 c2 c3
 have HB2 : Hid (Below w.heap.size w w') := HB.out.trans (hb.mono HB.out.size)
 clear hb HB
 cases px
 ·
  refine hK _ _ (fun a hF => ?_);clear hK K;refine seq_end ?_;replace hF := hF.kp [0, 1, 5, 7, 8, 16] rfl;refine hK _ _ ?_;clear hK
  refine cond_no hF rfl ?_
  refine wp_skip ?_
  refine hK _ _ ?_
  clear hK
  have hws : IntKind.i64.wrap ((i : Int) + 1) = ((i + 1 : Nat) : Int) := wrap_succ (by omega)
  revert hF;refine zrg [4, 1] [0, 1, 7, 8] fun a hF => ?_
  exact hKB (xs.length - (i + 1)) _ _ (by omega) ⟨i + 1, by omega, hF, HB2, HPI.out rfl⟩
 ·
  refine hK _ _ (fun a hF => ?_);clear hK K;refine seq_end ?_;replace hF := hF.kp [0, 1, 5, 7, 8, 16] rfl;refine hK _ _ ?_;clear hK
  refine cond_yes hF rfl ?_
  revert hF;refine zrs [1, 2] [4] fun a hF => ?_;refine wp_ret ?_;(try simp only [then_ret, block_ret, goto_ret]);revert hF;refine zq ?_
  exact ⟨by rw [HPH.out rfl]; rfl, HB2.out⟩

set_option maxRecDepth 100000 in
theorem contains_box (w : World) (ra : Option Addr) (n c : Nat) (xs : List BoxR) (h : Recs BoxE w ra n xs) (hn : n ≤ 9223372036854775807) (fid : FuncId) (cap : List Value) (p : BoxR → Bool) (hpl : plainB Tryz.prog fid = true)
  (hf : ∀ wx, Below w.heap.size w wx → ∀ i (hi : i < xs.length), Calls Tryz.prog fid (.agg #[.int .i64 xs[i].x, .int .i64 xs[i].y, .int .i64 xs[i].x2, .int .i64 xs[i].y2] :: cap).toArray wx fun e w' => e = .returned (.bool (p xs[i])) ∧ Below wx.heap.size wx w') :
  Calls Tryz.prog 38 #[.slice ra n c, .func (.func fid) #[] cap.toArray] w fun e w' => e = .returned (.bool (xs.any p)) ∧ Below w.heap.size w w' := by
 have HC := Lib.hid (index_box w ra n c xs h hn fid cap p hpl hf)
 have HA := Lib.hid (idx_any p xs)
 clear h hf
 generalize idxS p xs = r at *
 generalize xs.any p = y at *
 have HA2 := HA.out
 clear HA
 refine enter_fr (N := 9) [.slice ra n c, .func (.func fid) #[] cap.toArray] (Tryz.func38) rfl Tryz.ntmps38 (by rfl) (fun a hF => ?_);replace hF := hF.kp [0, 1] rfl;revert hF;refine zrs [2] [0, 1] fun a hF => ?_;refine wp_seq_k (fun K hK => ?_);revert hF;refine zrp [1, 1] [2, 3, 4] fun a hF => ?_;revert hF;refine zos fun K hK => ?_
 refine HC.out.mono ?_
 rintro e w' ⟨rfl, hb⟩
 clear HC
 refine hK _ _ (fun a hF => ?_);clear hK K;revert hF;refine zre 3 [4, 2] [4] fun a hF => ?_;refine hK _ _ ?_;clear hK;refine wp_ret ?_;(try simp only [then_ret, block_ret, goto_ret]);revert hF;refine zq ?_
 exact ⟨rfl, hb⟩

set_option maxRecDepth 100000 in
theorem index_mark (w : World) (ra : Option Addr) (n c : Nat) (xs : List MarkR) (h : Recs MarkE w ra n xs) (hn : n ≤ 9223372036854775807) (fid : FuncId) (cap : List Value) (p : MarkR → Bool) (hpl : plainB Tryz.prog fid = true)
  (hf : ∀ wx, Below w.heap.size w wx → ∀ i (hi : i < xs.length), Calls Tryz.prog fid (.agg #[.int .i64 xs[i].kind, .int .i64 xs[i].seat, .int .i64 xs[i].wth] :: cap).toArray wx fun e w' => e = .returned (.bool (p xs[i])) ∧ Below wx.heap.size wx w') :
  Calls Tryz.prog 75 #[.slice ra n c, .func (.func fid) #[] cap.toArray] w fun e w' => e = .returned (.int .i64 (idxS p xs)) ∧ Below w.heap.size w w' := by
 obtain rfl : xs.length = n := h.1
 have HR := Lib.hid h
 have HF := Lib.hid hf
 clear h hf
 refine enter_fr (N := 19) [.slice ra xs.length c, .func (.func fid) #[] cap.toArray] (Tryz.func75) rfl Tryz.ntmps75 (by rfl) (fun a hF => ?_);replace hF := hF.kp [0, 1] rfl;revert hF;refine zrs [2] [0, 1] fun a hF => ?_;refine wp_seq_k (fun KA hKA => ?_);revert hF;refine zrs [1, 4, 1] [0, 1, 7, 8] fun a hF => ?_
 refine wp_block ?_
 refine loop_fr (fun k a' w' => ∃ i : Nat, i + k = xs.length ∧ FrF 19 [] [(0, .slice ra xs.length c), (1, .func (.func fid) #[] cap.toArray), (7, .int .i64 xs.length), (8, .int .i64 i)] a' ∧ Hid (Below w.heap.size w w') ∧ Hid (∀ j (hj : j < xs.length), j < i → p xs[j] = false)) xs.length ⟨0, by omega, hF, Below.refl _ _, fun j _ hj => absurd hj (Nat.not_lt_zero _)⟩ ?_
 clear hF
 rintro rk a wr ⟨i, hik, hF, HB, HP⟩ KB hKB
 by_cases hlt : i < xs.length
 rotate_left
 ·
  revert hF;refine zrs [5] [0, 1, 7, 8, 9] fun a hF => ?_;refine wp_seq_k (fun K hK => ?_)
  refine cond_no hF rfl ?_
  refine wp_exit ?_
  refine hKA _ _ ?_;clear hKA;revert hF;refine zrs [2] [4] fun a hF => ?_;refine wp_ret ?_;(try simp only [then_ret, block_ret, goto_ret]);revert hF;refine zq ?_
  exact ⟨by rw [idx_none fun j hj => HP.out j hj (by omega)]; rfl, HB.out⟩
 revert hF;refine zrs [5] [0, 1, 7, 8, 9] fun a hF => ?_;refine wp_seq_k (fun K hK => ?_)
 refine cond_yes hF rfl ?_
 refine wp_skip ?_
 refine hK _ _ ?_;clear hK;replace hF := hF.kp [0, 1, 7, 8] rfl;refine wp_seq_k (fun K hK => ?_)
 refine wp_block ?_
 revert hF;refine zrs [1, 2] [0, 1, 5, 7, 8] fun a hF => ?_
 obtain ⟨b, o, rfl, c0, c1, c2⟩ := mark_at (HR.out.below HB.out) i hlt hlt
 have hki : (i : Int) < xs.length := by omega
 have HFI := Lib.hid (HF.out wr HB.out i hlt)
 have HPI : Hid (p xs[i] = false → ∀ j (hj : j < xs.length), j < i + 1 → p xs[j] = false) := fun he j hj hji => by
  by_cases e : j = i
  ·
   subst e; exact he
  ·
   exact HP.out j hj (by omega)
 have HPH : Hid (p xs[i] = true → idxS p xs = i) := fun he => idx_hit hlt he HP.out
 generalize xs[i] = x at *
 generalize p x = px at *
 refine wp_seq_k (fun K hK => ?_);revert hF;refine zrp [1, 1, 1, 5, 4] [5] fun a hF => ?_;refine seq_one ?_;refine op_callv [_] _ _ rfl rfl hF rfl rfl (by first | assumption | kernel_rfl) ⟨rfl, trivial⟩ (fun K hK => ?_);clear hF
 refine HFI.out.mono ?_
 rintro e w' ⟨rfl, hb⟩
 clear HFI c0 c1 c2
 have HB2 : Hid (Below w.heap.size w w') := HB.out.trans (hb.mono HB.out.size)
 clear hb HB
 cases px
 ·
  refine hK _ _ (fun a hF => ?_);clear hK K;refine seq_end ?_;replace hF := hF.kp [0, 1, 5, 7, 8, 16] rfl;refine hK _ _ ?_;clear hK
  refine cond_no hF rfl ?_
  refine wp_skip ?_
  refine hK _ _ ?_
  clear hK
  have hws : IntKind.i64.wrap ((i : Int) + 1) = ((i + 1 : Nat) : Int) := wrap_succ (by omega)
  revert hF;refine zrg [4, 1] [0, 1, 7, 8] fun a hF => ?_
  exact hKB (xs.length - (i + 1)) _ _ (by omega) ⟨i + 1, by omega, hF, HB2, HPI.out rfl⟩
 ·
  refine hK _ _ (fun a hF => ?_);clear hK K;refine seq_end ?_;replace hF := hF.kp [0, 1, 5, 7, 8, 16] rfl;refine hK _ _ ?_;clear hK
  refine cond_yes hF rfl ?_
  revert hF;refine zrs [1, 2] [4] fun a hF => ?_;refine wp_ret ?_;(try simp only [then_ret, block_ret, goto_ret]);revert hF;refine zq ?_
  exact ⟨by rw [HPH.out rfl]; rfl, HB2.out⟩

set_option maxRecDepth 100000 in
theorem contains_mark (w : World) (ra : Option Addr) (n c : Nat) (xs : List MarkR) (h : Recs MarkE w ra n xs) (hn : n ≤ 9223372036854775807) (fid : FuncId) (cap : List Value) (p : MarkR → Bool) (hpl : plainB Tryz.prog fid = true)
  (hf : ∀ wx, Below w.heap.size w wx → ∀ i (hi : i < xs.length), Calls Tryz.prog fid (.agg #[.int .i64 xs[i].kind, .int .i64 xs[i].seat, .int .i64 xs[i].wth] :: cap).toArray wx fun e w' => e = .returned (.bool (p xs[i])) ∧ Below wx.heap.size wx w') :
  Calls Tryz.prog 46 #[.slice ra n c, .func (.func fid) #[] cap.toArray] w fun e w' => e = .returned (.bool (xs.any p)) ∧ Below w.heap.size w w' := by
 have HC := Lib.hid (index_mark w ra n c xs h hn fid cap p hpl hf)
 have HA := Lib.hid (idx_any p xs)
 clear h hf
 generalize idxS p xs = r at *
 generalize xs.any p = y at *
 have HA2 := HA.out
 clear HA
 refine enter_fr (N := 9) [.slice ra n c, .func (.func fid) #[] cap.toArray] (Tryz.func46) rfl Tryz.ntmps46 (by rfl) (fun a hF => ?_);replace hF := hF.kp [0, 1] rfl;revert hF;refine zrs [2] [0, 1] fun a hF => ?_;refine wp_seq_k (fun K hK => ?_);revert hF;refine zrp [1, 1] [2, 3, 4] fun a hF => ?_;revert hF;refine zos fun K hK => ?_
 refine HC.out.mono ?_
 rintro e w' ⟨rfl, hb⟩
 clear HC
 refine hK _ _ (fun a hF => ?_);clear hK K;revert hF;refine zre 3 [4, 2] [4] fun a hF => ?_;refine hK _ _ ?_;clear hK;refine wp_ret ?_;(try simp only [then_ret, block_ret, goto_ret]);revert hF;refine zq ?_
 exact ⟨rfl, hb⟩

set_option maxRecDepth 100000 in
theorem index_int (w : World) (ra : Option Addr) (n c : Nat) (xs : List Int) (h : Recs IntE w ra n xs) (hn : n ≤ 9223372036854775807) (fid : FuncId) (cap : List Value) (p : Int → Bool) (hpl : plainB Tryz.prog fid = true)
  (hf : ∀ wx, Below w.heap.size w wx → ∀ i (hi : i < xs.length), Calls Tryz.prog fid (.int .i64 xs[i] :: cap).toArray wx fun e w' => e = .returned (.bool (p xs[i])) ∧ Below wx.heap.size wx w') :
  Calls Tryz.prog 77 #[.slice ra n c, .func (.func fid) #[] cap.toArray] w fun e w' => e = .returned (.int .i64 (idxS p xs)) ∧ Below w.heap.size w w' := by
 obtain rfl : xs.length = n := h.1
 have HR := Lib.hid h
 have HF := Lib.hid hf
 clear h hf
 refine enter_fr (N := 19) [.slice ra xs.length c, .func (.func fid) #[] cap.toArray] (Tryz.func77) rfl Tryz.ntmps77 (by rfl) (fun a hF => ?_);replace hF := hF.kp [0, 1] rfl;revert hF;refine zrs [2] [0, 1] fun a hF => ?_;refine wp_seq_k (fun KA hKA => ?_);revert hF;refine zrs [1, 4, 1] [0, 1, 7, 8] fun a hF => ?_
 refine wp_block ?_
 refine loop_fr (fun k a' w' => ∃ i : Nat, i + k = xs.length ∧ FrF 19 [] [(0, .slice ra xs.length c), (1, .func (.func fid) #[] cap.toArray), (7, .int .i64 xs.length), (8, .int .i64 i)] a' ∧ Hid (Below w.heap.size w w') ∧ Hid (∀ j (hj : j < xs.length), j < i → p xs[j] = false)) xs.length ⟨0, by omega, hF, Below.refl _ _, fun j _ hj => absurd hj (Nat.not_lt_zero _)⟩ ?_
 clear hF
 rintro rk a wr ⟨i, hik, hF, HB, HP⟩ KB hKB
 by_cases hlt : i < xs.length
 rotate_left
 ·
  revert hF;refine zrs [5] [0, 1, 7, 8, 9] fun a hF => ?_;refine wp_seq_k (fun K hK => ?_)
  refine cond_no hF rfl ?_
  refine wp_exit ?_
  refine hKA _ _ ?_;clear hKA;revert hF;refine zrs [2] [4] fun a hF => ?_;refine wp_ret ?_;(try simp only [then_ret, block_ret, goto_ret]);revert hF;refine zq ?_
  exact ⟨by rw [idx_none fun j hj => HP.out j hj (by omega)]; rfl, HB.out⟩
 revert hF;refine zrs [5] [0, 1, 7, 8, 9] fun a hF => ?_;refine wp_seq_k (fun K hK => ?_)
 refine cond_yes hF rfl ?_
 refine wp_skip ?_
 refine hK _ _ ?_;clear hK;replace hF := hF.kp [0, 1, 7, 8] rfl;refine wp_seq_k (fun K hK => ?_)
 refine wp_block ?_
 revert hF;refine zrs [1, 2] [0, 1, 5, 7, 8] fun a hF => ?_
 obtain ⟨b, o, rfl, c0⟩ := int_at (HR.out.below HB.out) i hlt hlt
 have hki : (i : Int) < xs.length := by omega
 have HFI := Lib.hid (HF.out wr HB.out i hlt)
 have HPI : Hid (p xs[i] = false → ∀ j (hj : j < xs.length), j < i + 1 → p xs[j] = false) := fun he j hj hji => by
  by_cases e : j = i
  ·
   subst e; exact he
  ·
   exact HP.out j hj (by omega)
 have HPH : Hid (p xs[i] = true → idxS p xs = i) := fun he => idx_hit hlt he HP.out
 generalize xs[i] = x at *
 generalize p x = px at *
 refine wp_seq_k (fun K hK => ?_);revert hF;refine zrp [1, 1, 1, 5, 4] [5] fun a hF => ?_;refine seq_one ?_;refine op_callv [_] _ _ rfl rfl hF rfl rfl (by first | assumption | kernel_rfl) ⟨rfl, trivial⟩ (fun K hK => ?_);clear hF
 refine HFI.out.mono ?_
 rintro e w' ⟨rfl, hb⟩
 clear HFI c0
 have HB2 : Hid (Below w.heap.size w w') := HB.out.trans (hb.mono HB.out.size)
 clear hb HB
 cases px
 ·
  refine hK _ _ (fun a hF => ?_);clear hK K;refine seq_end ?_;replace hF := hF.kp [0, 1, 5, 7, 8, 16] rfl;refine hK _ _ ?_;clear hK
  refine cond_no hF rfl ?_
  refine wp_skip ?_
  refine hK _ _ ?_
  clear hK
  have hws : IntKind.i64.wrap ((i : Int) + 1) = ((i + 1 : Nat) : Int) := wrap_succ (by omega)
  revert hF;refine zrg [4, 1] [0, 1, 7, 8] fun a hF => ?_
  exact hKB (xs.length - (i + 1)) _ _ (by omega) ⟨i + 1, by omega, hF, HB2, HPI.out rfl⟩
 ·
  refine hK _ _ (fun a hF => ?_);clear hK K;refine seq_end ?_;replace hF := hF.kp [0, 1, 5, 7, 8, 16] rfl;refine hK _ _ ?_;clear hK
  refine cond_yes hF rfl ?_
  revert hF;refine zrs [1, 2] [4] fun a hF => ?_;refine wp_ret ?_;(try simp only [then_ret, block_ret, goto_ret]);revert hF;refine zq ?_
  exact ⟨by rw [HPH.out rfl]; rfl, HB2.out⟩

set_option maxRecDepth 100000 in
theorem contains_int (w : World) (ra : Option Addr) (n c : Nat) (xs : List Int) (h : Recs IntE w ra n xs) (hn : n ≤ 9223372036854775807) (fid : FuncId) (cap : List Value) (p : Int → Bool) (hpl : plainB Tryz.prog fid = true)
  (hf : ∀ wx, Below w.heap.size w wx → ∀ i (hi : i < xs.length), Calls Tryz.prog fid (.int .i64 xs[i] :: cap).toArray wx fun e w' => e = .returned (.bool (p xs[i])) ∧ Below wx.heap.size wx w') :
  Calls Tryz.prog 52 #[.slice ra n c, .func (.func fid) #[] cap.toArray] w fun e w' => e = .returned (.bool (xs.any p)) ∧ Below w.heap.size w w' := by
 have HC := Lib.hid (index_int w ra n c xs h hn fid cap p hpl hf)
 have HA := Lib.hid (idx_any p xs)
 clear h hf
 generalize idxS p xs = r at *
 generalize xs.any p = y at *
 have HA2 := HA.out
 clear HA
 refine enter_fr (N := 9) [.slice ra n c, .func (.func fid) #[] cap.toArray] (Tryz.func52) rfl Tryz.ntmps52 (by rfl) (fun a hF => ?_);replace hF := hF.kp [0, 1] rfl;revert hF;refine zrs [2] [0, 1] fun a hF => ?_;refine wp_seq_k (fun K hK => ?_);revert hF;refine zrp [1, 1] [2, 3, 4] fun a hF => ?_;revert hF;refine zos fun K hK => ?_
 refine HC.out.mono ?_
 rintro e w' ⟨rfl, hb⟩
 clear HC
 refine hK _ _ (fun a hF => ?_);clear hK K;revert hF;refine zre 3 [4, 2] [4] fun a hF => ?_;refine hK _ _ ?_;clear hK;refine wp_ret ?_;(try simp only [then_ret, block_ret, goto_ret]);revert hF;refine zq ?_
 exact ⟨rfl, hb⟩

end Go.Proofs.YtmcdhggnpfhlmaaGreat