/- hall: foyerref10.Same, SameFaults (printed by hsagen.py). -/
import Derived.Test.YtmcdhggnpfhlmaaQHCB34

namespace Go.Proofs.Ytmcdhggnpfhlmaa
open Go.RowKit Go.IntWalk
set_option linter.unusedSimpArgs false
set_option linter.unusedVariables false

set_option maxRecDepth 100000 in
set_option maxHeartbeats 8000000 in
theorem same_flt (w : World) (ra rb : Option Addr) (n c n2 c2 : Nat) (l m : List FaultR) (hl : Recs FaultE w ra n l) (hm : Recs FaultE w rb n2 m) (hn : n ≤ 9223372036854775807) (hn2 : n2 ≤ 9223372036854775807) :
    Calls Try.prog 20 #[.slice ra n c, .slice rb n2 c2] w fun e w' => e = .returned (.bool (decide (l = m))) ∧ Below w.heap.size w w' := by
  have HL := Lib.hid hl
  have HM := Lib.hid hm
  have HLL := Lib.hid hl.1
  have HML := Lib.hid hm.1
  have HT : Hid (l = m → (decide (l = m)) = true) := fun h => by simp [h]
  have HFF : Hid (l ≠ m → (decide (l = m)) = false) := fun h => by simp [h]
  clear hl hm
  generalize decide (l = m) = res at *
  refine enter_fr (N := 26) [.slice ra n c, .slice rb n2 c2] (Try.func20) rfl Try.ntmps20 (by rfl) (fun a hF => ?_);replace hF := hF.kp [0, 1] rfl;refine wp_seq_k (fun K hK => ?_);refine region_sk [0] [] hF fun C hC => ?_;clear hF;refine za rfl rfl rfl ?_;refine hC _ (fun a hF => ?_);clear hC C;refine seq_end ?_;replace hF := hF.kp [0, 1] rfl;refine hK _ _ ?_;clear hK;(try clear K)
  by_cases hnn : n = n2
  rotate_left
  · have hb : ((n : Int) != (n2 : Int)) = true := by simp; omega
    have HE : Hid (res = false) := HFF.out (fun h => hnn (by rw [← HLL.out, ← HML.out, h]))
    refine wp_seq_k (fun K hK => ?_);refine wp_seq_k (fun K hK => ?_);refine region_sk [0, 1, 2, 3, 4] [] hF fun C hC => ?_;clear hF;refine zm rfl rfl rfl ?_;refine zs1 6 rfl rfl ?_;refine zm rfl rfl rfl ?_;refine zs1 8 rfl rfl ?_;refine zs2 7 9 rfl rfl rfl ?_;refine hC _ (fun a hF => ?_);clear hC C;refine seq_end ?_;replace hF := hF.kp [0, 1, 10] rfl;refine hK _ _ ?_;clear hK;(try clear K)
    refine cond_yes hF rfl ?_
    refine wp_seq_k (fun K hK => ?_);refine region_sk [0] [] hF fun C hC => ?_;clear hF;refine za rfl rfl rfl ?_;refine hC _ (fun a hF => ?_);clear hC C;refine seq_end ?_;replace hF := hF.kp [4] rfl;refine hK _ _ ?_;clear hK;(try clear K);refine wp_ret ?_;(try simp only [then_ret, block_ret, goto_ret]);refine ret_fr (fn := Try.f20) (rs := [.tmp 4]) rfl [_] hF ⟨rfl, trivial⟩ ?_
    exact ⟨by rw [HE.out]; rfl, Below.refl _ _⟩
  have hb : ((n : Int) != (n2 : Int)) = false := by simp [hnn]
  refine wp_seq_k (fun K hK => ?_);refine wp_seq_k (fun K hK => ?_);refine region_sk [0, 1, 2, 3, 4] [] hF fun C hC => ?_;clear hF;refine zm rfl rfl rfl ?_;refine zs1 6 rfl rfl ?_;refine zm rfl rfl rfl ?_;refine zs1 8 rfl rfl ?_;refine zs2 7 9 rfl rfl rfl ?_;refine hC _ (fun a hF => ?_);clear hC C;refine seq_end ?_;replace hF := hF.kp [0, 1, 10] rfl;refine hK _ _ ?_;clear hK;(try clear K)
  refine cond_no hF rfl ?_
  refine wp_skip ?_
  refine hK _ _ ?_;clear hK;(try clear K)
  clear hb
  subst hnn
  clear hn2
  refine wp_seq_k (fun KA hKA => ?_);refine wp_seq_k (fun K hK => ?_);refine region_sk [0] [] hF fun C hC => ?_;clear hF;refine za rfl rfl rfl ?_;refine hC _ (fun a hF => ?_);clear hC C;refine seq_end ?_;replace hF := hF.kp [0, 1, 5] rfl;refine hK _ _ ?_;clear hK;(try clear K)
  refine wp_block ?_
  refine loop_fr (fun k a' w' => ∃ i : Nat, i + k = n ∧ FrF 26 [] [(0, .slice ra n c), (1, .slice rb n c2), (5, .int .i64 i)] a' ∧ Hid (Below w.heap.size w w') ∧ Hid (∀ j (h1 : j < l.length) (h2 : j < m.length), j < i → l[j] = m[j])) n ⟨0, by omega, hF.sub ⟨rfl, rfl, rfl, trivial⟩, Below.refl _ _, fun j _ _ hj => absurd hj (Nat.not_lt_zero _)⟩ ?_
  clear hF
  rintro rk a wr ⟨i, hik, hF, HB, HP⟩ KB hKB
  refine wp_seq_k (fun K hK => ?_);refine wp_seq_k (fun K hK => ?_)
  by_cases hlt : i < n
  rotate_left
  · have hil0 : ¬ (i : Int) < n := by omega
    refine region_sk [0, 1, 2, 3] [] hF fun C hC => ?_;clear hF;refine zm rfl rfl rfl ?_;refine zm rfl rfl rfl ?_;refine zs1 12 rfl rfl ?_;refine zs2 11 13 rfl rfl rfl ?_;refine hC _ (fun a hF => ?_);clear hC C;refine seq_end ?_;replace hF := hF.kp [0, 1, 5, 14] rfl;refine hK _ _ ?_;clear hK;(try clear K)
    refine cond_no hF rfl ?_
    refine wp_exit ?_
    have HE : Hid (res = true) := HT.out (List.ext_getElem (by rw [HLL.out, HML.out]) fun j h1 h2 => HP.out j h1 h2 (by have := HLL.out; omega))
    refine hKA _ _ ?_;clear hKA;(try clear KA);refine wp_seq_k (fun K hK => ?_);refine region_sk [0] [] hF fun C hC => ?_;clear hF;refine za rfl rfl rfl ?_;refine hC _ (fun a hF => ?_);clear hC C;refine seq_end ?_;replace hF := hF.kp [4] rfl;refine hK _ _ ?_;clear hK;(try clear K);refine wp_ret ?_;(try simp only [then_ret, block_ret, goto_ret]);refine ret_fr (fn := Try.f20) (rs := [.tmp 4]) rfl [_] hF ⟨rfl, trivial⟩ ?_
    exact ⟨by rw [HE.out]; rfl, HB.out⟩
  have hii : (i : Int) < n := by omega
  refine region_sk [0, 1, 2, 3] [] hF fun C hC => ?_;clear hF;refine zm rfl rfl rfl ?_;refine zm rfl rfl rfl ?_;refine zs1 12 rfl rfl ?_;refine zs2 11 13 rfl rfl rfl ?_;refine hC _ (fun a hF => ?_);clear hC C;refine seq_end ?_;replace hF := hF.kp [0, 1, 5, 14] rfl;refine hK _ _ ?_;clear hK;(try clear K)
  refine cond_yes hF rfl ?_
  refine wp_skip ?_
  refine hK _ _ ?_;clear hK;(try clear K);replace hF := hF.kp [0, 1, 5] rfl
  clear hKA
  have hil : i < l.length := by rw [HLL.out]; exact hlt
  have him : i < m.length := by rw [HML.out]; exact hlt
  refine seq_cut (fun a' w' => FrF 26 [] [(0, .slice ra n c), (1, .slice rb n c2), (5, .int .i64 i)] a' ∧ Hid (Below w.heap.size w w') ∧ Hid (∀ j (h1 : j < l.length) (h2 : j < m.length), j < i + 1 → l[j] = m[j])) (fun KC hKC => ?_) ?_
  rotate_left
  · clear hF HP HB
    rintro a w' ⟨hF, HB, HP⟩
    have hws : IntKind.i64.wrap ((i : Int) + 1) = ((i + 1 : Nat) : Int) := wrap_succ (by omega)
    refine region_sk [0, 1, 2] [] hF fun C hC => ?_;clear hF;refine zm rfl rfl rfl ?_;refine zs1 15 rfl rfl ?_;refine za rfl rfl rfl ?_;refine hC _ (fun a hF => ?_);clear hC C;refine seq_end ?_;replace hF := hF.kp [0, 1, 5] rfl
    exact hKB (n - (i + 1)) _ _ (by omega) ⟨i + 1, by omega, hF, HB, HP⟩
  clear hKB hik
  refine wp_block ?_
  refine wp_seq_k (fun K hK => ?_)
  have HBD : Hid (Below w.heap.size w wr.drew) := below_d HB.out
  obtain ⟨b1, o1, hra, d0, d1, d2⟩ := fault_at (w := wr.drew) (HL.out.below HBD.out) i hlt hil
  obtain ⟨b2, o2, hrb, e0, e1, e2⟩ := fault_at (w := wr.drew) (HM.out.below HBD.out) i (by omega) him
  have HNE : Hid (l[i] ≠ m[i] → l ≠ m) := fun h e => h (by subst e; rfl)
  have HPN : Hid (l[i] = m[i] → ∀ j (h1 : j < l.length) (h2 : j < m.length), j < i + 1 → l[j] = m[j]) := fun h j h1 h2 hji => by
    by_cases e : j = i
    · subst e; exact h
    · exact HP.out j h1 h2 (by omega)
  generalize l[i] = x at *
  generalize m[i] = y at *
  by_cases hxy : x = y
  · have HXY := Lib.hid hxy
    have heq : ∀ wx, Sem.run Try.prog (binOp .neq 63 (.agg #[.int .i64 x.err, .int .i64 x.at', .int .i64 x.other]) (.agg #[.int .i64 y.err, .int .i64 y.at', .int .i64 y.other])) wx = .ok (.bool false) wx := fun wx => by
      rw [neq_flt]
      simp [hxy]
    have hgd : ∀ wx op p q, Sem.run Try.prog (eqGuard op 63 p q (.agg #[.int .i64 x.err, .int .i64 x.at', .int .i64 x.other]) (.agg #[.int .i64 y.err, .int .i64 y.at', .int .i64 y.other])) wx = .ok () wx := fun wx op p q => guard_flt op p q x y wx
    clear hxy
    refine region_any (by kernel_rfl) ?_;refine any_chain (fuel := 0) [(0, false), (1, false), (2, false), (3, true), (4, false), (5, false), (6, false), (7, true), (8, false)] [] rfl (by kernel_rfl) (by kernel_rfl) hF (fun _ _ d _ _ h => by cases d <;> exact h) (fun C hC => ?_);clear hF;refine zm rfl rfl rfl ?_;refine zm rfl rfl rfl ?_;refine zy2 17 18 rfl rfl rfl ?_;refine zs1 19 rfl rfl ?_;refine zm rfl rfl rfl ?_;refine zm rfl rfl rfl ?_;refine zy2 21 22 rfl rfl rfl ?_;refine zs1 23 rfl rfl ?_;refine zy2 20 24 rfl rfl rfl ?_;refine hC _ (fun a hF => ?_);clear hC C;refine any_end (by kernel_rfl) ?_;replace hF := hF.kp [0, 1, 5, 25] rfl
    clear heq hgd hra hrb
    refine hK _ _ ?_;clear hK;(try clear K)
    refine cond_no hF rfl ?_
    refine wp_skip ?_
    exact hKC _ _ ⟨hF.sub ⟨rfl, rfl, rfl, trivial⟩, HBD, HPN.out HXY.out⟩
  · have HE : Hid (res = false) := HFF.out (HNE.out hxy)
    have heq : ∀ wx, Sem.run Try.prog (binOp .neq 63 (.agg #[.int .i64 x.err, .int .i64 x.at', .int .i64 x.other]) (.agg #[.int .i64 y.err, .int .i64 y.at', .int .i64 y.other])) wx = .ok (.bool true) wx := fun wx => by
      rw [neq_flt]
      simp [hxy]
    have hgd : ∀ wx op p q, Sem.run Try.prog (eqGuard op 63 p q (.agg #[.int .i64 x.err, .int .i64 x.at', .int .i64 x.other]) (.agg #[.int .i64 y.err, .int .i64 y.at', .int .i64 y.other])) wx = .ok () wx := fun wx op p q => guard_flt op p q x y wx
    clear hxy
    refine region_any (by kernel_rfl) ?_;refine any_chain (fuel := 0) [(0, false), (1, false), (2, false), (3, true), (4, false), (5, false), (6, false), (7, true), (8, false)] [] rfl (by kernel_rfl) (by kernel_rfl) hF (fun _ _ d _ _ h => by cases d <;> exact h) (fun C hC => ?_);clear hF;refine zm rfl rfl rfl ?_;refine zm rfl rfl rfl ?_;refine zy2 17 18 rfl rfl rfl ?_;refine zs1 19 rfl rfl ?_;refine zm rfl rfl rfl ?_;refine zm rfl rfl rfl ?_;refine zy2 21 22 rfl rfl rfl ?_;refine zs1 23 rfl rfl ?_;refine zy2 20 24 rfl rfl rfl ?_;refine hC _ (fun a hF => ?_);clear hC C;refine any_end (by kernel_rfl) ?_;replace hF := hF.kp [0, 1, 5, 25] rfl
    clear heq hgd hra hrb
    refine hK _ _ ?_;clear hK;(try clear K)
    refine cond_yes hF rfl ?_
    refine wp_seq_k (fun K hK => ?_);refine region_sk [0] [] hF fun C hC => ?_;clear hF;refine za rfl rfl rfl ?_;refine hC _ (fun a hF => ?_);clear hC C;refine seq_end ?_;replace hF := hF.kp [4] rfl;refine hK _ _ ?_;clear hK;(try clear K);refine wp_ret ?_;(try simp only [then_ret, block_ret, goto_ret]);refine ret_fr (fn := Try.f20) (rs := [.tmp 4]) rfl [_] hF ⟨rfl, trivial⟩ ?_
    exact ⟨by rw [HE.out]; rfl, HBD.out⟩

set_option maxRecDepth 100000 in
set_option maxHeartbeats 8000000 in
theorem same_plc (w : World) (ra rb : Option Addr) (n c n2 c2 : Nat) (l m : List PlaceR) (hl : Recs PlaceE w ra n l) (hm : Recs PlaceE w rb n2 m) (hn : n ≤ 9223372036854775807) (hn2 : n2 ≤ 9223372036854775807) :
    Calls Try.prog 17 #[.slice ra n c, .slice rb n2 c2] w fun e w' => e = .returned (.bool (decide (l = m))) ∧ Below w.heap.size w w' := by
  have HL := Lib.hid hl
  have HM := Lib.hid hm
  have HLL := Lib.hid hl.1
  have HML := Lib.hid hm.1
  have HT : Hid (l = m → (decide (l = m)) = true) := fun h => by simp [h]
  have HFF : Hid (l ≠ m → (decide (l = m)) = false) := fun h => by simp [h]
  clear hl hm
  generalize decide (l = m) = res at *
  refine enter_fr (N := 26) [.slice ra n c, .slice rb n2 c2] (Try.func17) rfl Try.ntmps17 (by rfl) (fun a hF => ?_);replace hF := hF.kp [0, 1] rfl;refine wp_seq_k (fun K hK => ?_);refine region_sk [0] [] hF fun C hC => ?_;clear hF;refine za rfl rfl rfl ?_;refine hC _ (fun a hF => ?_);clear hC C;refine seq_end ?_;replace hF := hF.kp [0, 1] rfl;refine hK _ _ ?_;clear hK;(try clear K)
  by_cases hnn : n = n2
  rotate_left
  · have hb : ((n : Int) != (n2 : Int)) = true := by simp; omega
    have HE : Hid (res = false) := HFF.out (fun h => hnn (by rw [← HLL.out, ← HML.out, h]))
    refine wp_seq_k (fun K hK => ?_);refine wp_seq_k (fun K hK => ?_);refine region_sk [0, 1, 2, 3, 4] [] hF fun C hC => ?_;clear hF;refine zm rfl rfl rfl ?_;refine zs1 6 rfl rfl ?_;refine zm rfl rfl rfl ?_;refine zs1 8 rfl rfl ?_;refine zs2 7 9 rfl rfl rfl ?_;refine hC _ (fun a hF => ?_);clear hC C;refine seq_end ?_;replace hF := hF.kp [0, 1, 10] rfl;refine hK _ _ ?_;clear hK;(try clear K)
    refine cond_yes hF rfl ?_
    refine wp_seq_k (fun K hK => ?_);refine region_sk [0] [] hF fun C hC => ?_;clear hF;refine za rfl rfl rfl ?_;refine hC _ (fun a hF => ?_);clear hC C;refine seq_end ?_;replace hF := hF.kp [4] rfl;refine hK _ _ ?_;clear hK;(try clear K);refine wp_ret ?_;(try simp only [then_ret, block_ret, goto_ret]);refine ret_fr (fn := Try.f17) (rs := [.tmp 4]) rfl [_] hF ⟨rfl, trivial⟩ ?_
    exact ⟨by rw [HE.out]; rfl, Below.refl _ _⟩
  have hb : ((n : Int) != (n2 : Int)) = false := by simp [hnn]
  refine wp_seq_k (fun K hK => ?_);refine wp_seq_k (fun K hK => ?_);refine region_sk [0, 1, 2, 3, 4] [] hF fun C hC => ?_;clear hF;refine zm rfl rfl rfl ?_;refine zs1 6 rfl rfl ?_;refine zm rfl rfl rfl ?_;refine zs1 8 rfl rfl ?_;refine zs2 7 9 rfl rfl rfl ?_;refine hC _ (fun a hF => ?_);clear hC C;refine seq_end ?_;replace hF := hF.kp [0, 1, 10] rfl;refine hK _ _ ?_;clear hK;(try clear K)
  refine cond_no hF rfl ?_
  refine wp_skip ?_
  refine hK _ _ ?_;clear hK;(try clear K)
  clear hb
  subst hnn
  clear hn2
  refine wp_seq_k (fun KA hKA => ?_);refine wp_seq_k (fun K hK => ?_);refine region_sk [0] [] hF fun C hC => ?_;clear hF;refine za rfl rfl rfl ?_;refine hC _ (fun a hF => ?_);clear hC C;refine seq_end ?_;replace hF := hF.kp [0, 1, 5] rfl;refine hK _ _ ?_;clear hK;(try clear K)
  refine wp_block ?_
  refine loop_fr (fun k a' w' => ∃ i : Nat, i + k = n ∧ FrF 26 [] [(0, .slice ra n c), (1, .slice rb n c2), (5, .int .i64 i)] a' ∧ Hid (Below w.heap.size w w') ∧ Hid (∀ j (h1 : j < l.length) (h2 : j < m.length), j < i → l[j] = m[j])) n ⟨0, by omega, hF.sub ⟨rfl, rfl, rfl, trivial⟩, Below.refl _ _, fun j _ _ hj => absurd hj (Nat.not_lt_zero _)⟩ ?_
  clear hF
  rintro rk a wr ⟨i, hik, hF, HB, HP⟩ KB hKB
  refine wp_seq_k (fun K hK => ?_);refine wp_seq_k (fun K hK => ?_)
  by_cases hlt : i < n
  rotate_left
  · have hil0 : ¬ (i : Int) < n := by omega
    refine region_sk [0, 1, 2, 3] [] hF fun C hC => ?_;clear hF;refine zm rfl rfl rfl ?_;refine zm rfl rfl rfl ?_;refine zs1 12 rfl rfl ?_;refine zs2 11 13 rfl rfl rfl ?_;refine hC _ (fun a hF => ?_);clear hC C;refine seq_end ?_;replace hF := hF.kp [0, 1, 5, 14] rfl;refine hK _ _ ?_;clear hK;(try clear K)
    refine cond_no hF rfl ?_
    refine wp_exit ?_
    have HE : Hid (res = true) := HT.out (List.ext_getElem (by rw [HLL.out, HML.out]) fun j h1 h2 => HP.out j h1 h2 (by have := HLL.out; omega))
    refine hKA _ _ ?_;clear hKA;(try clear KA);refine wp_seq_k (fun K hK => ?_);refine region_sk [0] [] hF fun C hC => ?_;clear hF;refine za rfl rfl rfl ?_;refine hC _ (fun a hF => ?_);clear hC C;refine seq_end ?_;replace hF := hF.kp [4] rfl;refine hK _ _ ?_;clear hK;(try clear K);refine wp_ret ?_;(try simp only [then_ret, block_ret, goto_ret]);refine ret_fr (fn := Try.f17) (rs := [.tmp 4]) rfl [_] hF ⟨rfl, trivial⟩ ?_
    exact ⟨by rw [HE.out]; rfl, HB.out⟩
  have hii : (i : Int) < n := by omega
  refine region_sk [0, 1, 2, 3] [] hF fun C hC => ?_;clear hF;refine zm rfl rfl rfl ?_;refine zm rfl rfl rfl ?_;refine zs1 12 rfl rfl ?_;refine zs2 11 13 rfl rfl rfl ?_;refine hC _ (fun a hF => ?_);clear hC C;refine seq_end ?_;replace hF := hF.kp [0, 1, 5, 14] rfl;refine hK _ _ ?_;clear hK;(try clear K)
  refine cond_yes hF rfl ?_
  refine wp_skip ?_
  refine hK _ _ ?_;clear hK;(try clear K);replace hF := hF.kp [0, 1, 5] rfl
  clear hKA
  have hil : i < l.length := by rw [HLL.out]; exact hlt
  have him : i < m.length := by rw [HML.out]; exact hlt
  refine seq_cut (fun a' w' => FrF 26 [] [(0, .slice ra n c), (1, .slice rb n c2), (5, .int .i64 i)] a' ∧ Hid (Below w.heap.size w w') ∧ Hid (∀ j (h1 : j < l.length) (h2 : j < m.length), j < i + 1 → l[j] = m[j])) (fun KC hKC => ?_) ?_
  rotate_left
  · clear hF HP HB
    rintro a w' ⟨hF, HB, HP⟩
    have hws : IntKind.i64.wrap ((i : Int) + 1) = ((i + 1 : Nat) : Int) := wrap_succ (by omega)
    refine region_sk [0, 1, 2] [] hF fun C hC => ?_;clear hF;refine zm rfl rfl rfl ?_;refine zs1 15 rfl rfl ?_;refine za rfl rfl rfl ?_;refine hC _ (fun a hF => ?_);clear hC C;refine seq_end ?_;replace hF := hF.kp [0, 1, 5] rfl
    exact hKB (n - (i + 1)) _ _ (by omega) ⟨i + 1, by omega, hF, HB, HP⟩
  clear hKB hik
  refine wp_block ?_
  refine wp_seq_k (fun K hK => ?_)
  have HBD : Hid (Below w.heap.size w wr.drew) := below_d HB.out
  obtain ⟨b1, o1, hra, d0, d1, d2, d3, d4, d5, d6, d7, d8⟩ := place_at (w := wr.drew) (HL.out.below HBD.out) i hlt hil
  obtain ⟨b2, o2, hrb, e0, e1, e2, e3, e4, e5, e6, e7, e8⟩ := place_at (w := wr.drew) (HM.out.below HBD.out) i (by omega) him
  have HNE : Hid (l[i] ≠ m[i] → l ≠ m) := fun h e => h (by subst e; rfl)
  have HPN : Hid (l[i] = m[i] → ∀ j (h1 : j < l.length) (h2 : j < m.length), j < i + 1 → l[j] = m[j]) := fun h j h1 h2 hji => by
    by_cases e : j = i
    · subst e; exact h
    · exact HP.out j h1 h2 (by omega)
  generalize l[i] = x at *
  generalize m[i] = y at *
  by_cases hxy : x = y
  · have HXY := Lib.hid hxy
    have heq : ∀ wx, Sem.run Try.prog (binOp .neq 35 (.agg #[.int .i64 x.kind, .int .i64 x.level, .int .i64 x.block, .int .i64 x.row, .int .i64 x.seat, .int .i64 x.x, .int .i64 x.y, .int .i64 x.view, .int .i64 x.wth]) (.agg #[.int .i64 y.kind, .int .i64 y.level, .int .i64 y.block, .int .i64 y.row, .int .i64 y.seat, .int .i64 y.x, .int .i64 y.y, .int .i64 y.view, .int .i64 y.wth])) wx = .ok (.bool false) wx := fun wx => by
      rw [neq_plc]
      simp [hxy]
    have hgd : ∀ wx op p q, Sem.run Try.prog (eqGuard op 35 p q (.agg #[.int .i64 x.kind, .int .i64 x.level, .int .i64 x.block, .int .i64 x.row, .int .i64 x.seat, .int .i64 x.x, .int .i64 x.y, .int .i64 x.view, .int .i64 x.wth]) (.agg #[.int .i64 y.kind, .int .i64 y.level, .int .i64 y.block, .int .i64 y.row, .int .i64 y.seat, .int .i64 y.x, .int .i64 y.y, .int .i64 y.view, .int .i64 y.wth])) wx = .ok () wx := fun wx op p q => guard_plc op p q x y wx
    clear hxy
    refine region_any (by kernel_rfl) ?_;refine any_chain (fuel := 0) [(0, false), (1, false), (2, false), (3, true), (4, false), (5, false), (6, false), (7, true), (8, false)] [] rfl (by kernel_rfl) (by kernel_rfl) hF (fun _ _ d _ _ h => by cases d <;> exact h) (fun C hC => ?_);clear hF;refine zm rfl rfl rfl ?_;refine zm rfl rfl rfl ?_;refine zy2 17 18 rfl rfl rfl ?_;refine zs1 19 rfl rfl ?_;refine zm rfl rfl rfl ?_;refine zm rfl rfl rfl ?_;refine zy2 21 22 rfl rfl rfl ?_;refine zs1 23 rfl rfl ?_;refine zy2 20 24 rfl rfl rfl ?_;refine hC _ (fun a hF => ?_);clear hC C;refine any_end (by kernel_rfl) ?_;replace hF := hF.kp [0, 1, 5, 25] rfl
    clear heq hgd hra hrb
    refine hK _ _ ?_;clear hK;(try clear K)
    refine cond_no hF rfl ?_
    refine wp_skip ?_
    exact hKC _ _ ⟨hF.sub ⟨rfl, rfl, rfl, trivial⟩, HBD, HPN.out HXY.out⟩
  · have HE : Hid (res = false) := HFF.out (HNE.out hxy)
    have heq : ∀ wx, Sem.run Try.prog (binOp .neq 35 (.agg #[.int .i64 x.kind, .int .i64 x.level, .int .i64 x.block, .int .i64 x.row, .int .i64 x.seat, .int .i64 x.x, .int .i64 x.y, .int .i64 x.view, .int .i64 x.wth]) (.agg #[.int .i64 y.kind, .int .i64 y.level, .int .i64 y.block, .int .i64 y.row, .int .i64 y.seat, .int .i64 y.x, .int .i64 y.y, .int .i64 y.view, .int .i64 y.wth])) wx = .ok (.bool true) wx := fun wx => by
      rw [neq_plc]
      simp [hxy]
    have hgd : ∀ wx op p q, Sem.run Try.prog (eqGuard op 35 p q (.agg #[.int .i64 x.kind, .int .i64 x.level, .int .i64 x.block, .int .i64 x.row, .int .i64 x.seat, .int .i64 x.x, .int .i64 x.y, .int .i64 x.view, .int .i64 x.wth]) (.agg #[.int .i64 y.kind, .int .i64 y.level, .int .i64 y.block, .int .i64 y.row, .int .i64 y.seat, .int .i64 y.x, .int .i64 y.y, .int .i64 y.view, .int .i64 y.wth])) wx = .ok () wx := fun wx op p q => guard_plc op p q x y wx
    clear hxy
    refine region_any (by kernel_rfl) ?_;refine any_chain (fuel := 0) [(0, false), (1, false), (2, false), (3, true), (4, false), (5, false), (6, false), (7, true), (8, false)] [] rfl (by kernel_rfl) (by kernel_rfl) hF (fun _ _ d _ _ h => by cases d <;> exact h) (fun C hC => ?_);clear hF;refine zm rfl rfl rfl ?_;refine zm rfl rfl rfl ?_;refine zy2 17 18 rfl rfl rfl ?_;refine zs1 19 rfl rfl ?_;refine zm rfl rfl rfl ?_;refine zm rfl rfl rfl ?_;refine zy2 21 22 rfl rfl rfl ?_;refine zs1 23 rfl rfl ?_;refine zy2 20 24 rfl rfl rfl ?_;refine hC _ (fun a hF => ?_);clear hC C;refine any_end (by kernel_rfl) ?_;replace hF := hF.kp [0, 1, 5, 25] rfl
    clear heq hgd hra hrb
    refine hK _ _ ?_;clear hK;(try clear K)
    refine cond_yes hF rfl ?_
    refine wp_seq_k (fun K hK => ?_);refine region_sk [0] [] hF fun C hC => ?_;clear hF;refine za rfl rfl rfl ?_;refine hC _ (fun a hF => ?_);clear hC C;refine seq_end ?_;replace hF := hF.kp [4] rfl;refine hK _ _ ?_;clear hK;(try clear K);refine wp_ret ?_;(try simp only [then_ret, block_ret, goto_ret]);refine ret_fr (fn := Try.f17) (rs := [.tmp 4]) rfl [_] hF ⟨rfl, trivial⟩ ?_
    exact ⟨by rw [HE.out]; rfl, HBD.out⟩
end Go.Proofs.Ytmcdhggnpfhlmaa
