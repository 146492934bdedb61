/- The iterator of lexer.tokens: the walk. -/
import Derived.Test.YtkdbenoleendcaaGreatDoorQHMB06
import Derived.RangeFuncNested
import Derived.RangeFuncBound
import Derived.RangeFuncCalls
import Derived.RangeFuncLeaves
import Derived.Shelf.Abstract
import Derived.Shelf.RegionOpen
import Derived.WalkKit
import Derived.OwnWalkIn
import Derived.TacticsInMore
import Derived.LoopNIn
import Derived.LoopIn
import Derived.WalkMore
import Derived.Laws.Rows
import Derived.Deep.DeepCutAuto
import Derived.Deep.CutBlock

namespace Go.Proofs.YtkdbenoleendcaaGreatDoor
open Go.RowKit Go.Shelf Go.IntWalk
attribute [local go_sem] Oper.semAt_some

/-- How a token is handed over. -/
def fndV (x : Fnd) : Value := .agg #[.int .i64 x.kind, .string (bs x.text), .int .i64 x.num, .int .i64 x.pos, .int .i64 x.err]

/-- The token's box, made behind the world wr. -/
structure FBox (wr w1 : World) (b : Nat) (x : Fnd) : Prop where
  below : Below wr.heap.size wr w1
  size : wr.heap.size + 1 ≤ w1.heap.size
  blk : w1.heap[b]? = some (.cells #[.int .i64 x.kind, .string (bs x.text), .int .i64 x.num, .int .i64 x.pos, .int .i64 x.err] 93 (0, 0))

theorem FBox.new (wr : World) (p : Int) : FBox wr (wr.alloc (.cells #[.int .i64 0, .string ⟨#[]⟩, .int .i64 0, .int .i64 p, .int .i64 0] 93)) wr.heap.size ⟨0, [], 0, p, 0⟩ := by
  refine ⟨(Below.refl _ _).alloc (Nat.le_refl _) _, by simp, ?_⟩
  show (wr.heap.push _)[wr.heap.size]? = _
  simp
  rfl

section
variable {wr w1 : World} {b : Nat} {x : Fnd}
theorem FBox.c0 (h : FBox wr w1 b x) : w1.cell? ⟨b, 0, none⟩ = some (.int .i64 x.kind) := by rw [cell_of_row _ _ _ _ _ _ h.blk]; rfl
theorem FBox.c1 (h : FBox wr w1 b x) : w1.cell? ⟨b, 1, none⟩ = some (.string (bs x.text)) := by rw [cell_of_row _ _ _ _ _ _ h.blk]; rfl
theorem FBox.c2 (h : FBox wr w1 b x) : w1.cell? ⟨b, 2, none⟩ = some (.int .i64 x.num) := by rw [cell_of_row _ _ _ _ _ _ h.blk]; rfl
theorem FBox.c3 (h : FBox wr w1 b x) : w1.cell? ⟨b, 3, none⟩ = some (.int .i64 x.pos) := by rw [cell_of_row _ _ _ _ _ _ h.blk]; rfl
theorem FBox.c4 (h : FBox wr w1 b x) : w1.cell? ⟨b, 4, none⟩ = some (.int .i64 x.err) := by rw [cell_of_row _ _ _ _ _ _ h.blk]; rfl
theorem FBox.free (h : FBox wr w1 b x) (o : Nat) : w1.frozen? ⟨b, o, none⟩ = false := frozen_of_row _ _ _ _ _ h.blk
theorem FBox.kind' (h : FBox wr w1 wr.heap.size x) (v : Int) : FBox wr (w1.setCell ⟨wr.heap.size, 0, none⟩ (.int .i64 v)) wr.heap.size { x with kind := v } :=
  ⟨h.below.setCell (Nat.le_refl _) _, by rw [World.size_setCell]; exact h.size, by rw [heap_setCell_same _ _ _ _ _ _ h.blk]; rfl⟩
theorem FBox.text' (h : FBox wr w1 wr.heap.size x) (v : List UInt8) : FBox wr (w1.setCell ⟨wr.heap.size, 1, none⟩ (.string (bs v))) wr.heap.size { x with text := v } :=
  ⟨h.below.setCell (Nat.le_refl _) _, by rw [World.size_setCell]; exact h.size, by rw [heap_setCell_same _ _ _ _ _ _ h.blk]; rfl⟩
theorem FBox.num' (h : FBox wr w1 wr.heap.size x) (v : Int) : FBox wr (w1.setCell ⟨wr.heap.size, 2, none⟩ (.int .i64 v)) wr.heap.size { x with num := v } :=
  ⟨h.below.setCell (Nat.le_refl _) _, by rw [World.size_setCell]; exact h.size, by rw [heap_setCell_same _ _ _ _ _ _ h.blk]; rfl⟩
theorem FBox.err' (h : FBox wr w1 wr.heap.size x) (v : Int) : FBox wr (w1.setCell ⟨wr.heap.size, 4, none⟩ (.int .i64 v)) wr.heap.size { x with err := v } :=
  ⟨h.below.setCell (Nat.le_refl _) _, by rw [World.size_setCell]; exact h.size, by rw [heap_setCell_same _ _ _ _ _ _ h.blk]; rfl⟩
theorem FBox.step {w2 : World} (h : FBox wr w1 b x) (hb : Below w1.heap.size w1 w2) : FBox wr w2 b x :=
  ⟨h.below.trans (hb.mono h.below.size), Nat.le_trans h.size hb.size, (hb.block b (lt_of_block h.blk)).trans h.blk⟩
end

/-- What a round of the caller keeps: the iterator's three boxes, and the tokens' boxes. -/
structure KeepsTok (T C A : Nat) (W W' : World) : Prop where
  size : W.heap.size ≤ W'.heap.size
  text : W'.heap[T]? = W.heap[T]?
  cls : W'.heap[C]? = W.heap[C]?
  at' : W'.heap[A]? = W.heap[A]?
  found : ∀ (b : Nat) (arr : Array Value) (fr : Nat × Nat), W.heap[b]? = some (.cells arr 93 fr) → W'.heap[b]? = W.heap[b]?

theorem KeepsTok.lex {w w' : World} {T C A : Nat} {s : ByteArray} (h : LexBox w T C A s) (hk : KeepsTok T C A w w') : LexBox w' T C A s := by
  obtain ⟨h1, h2, h3⟩ := h
  refine ⟨?_, fun k hk' => ?_, ?_⟩
  · simp only [World.cell?, hk.text] at h1 ⊢; exact h1
  · have := h2 k hk'; simp only [World.cell?, hk.cls] at this ⊢; exact this
  · simp only [World.cell?, hk.at'] at h3 ⊢; exact h3

theorem cls_cases (c : Nat) : cls c = 0 ∨ cls c = 1 ∨ cls c = 2 ∨ cls c = 3 ∨ cls c = 4 ∨ cls c = 5 ∨ cls c = 6 ∨ cls c = 7 ∨ cls c = 8 := by
  have := cls_range c
  omega

theorem noltr {c : Nat} {v : Int} (h : cls c = v) (hv : v ≠ 3) : ltr c = false := by
  cases hh : ltr c
  · rfl
  · exact absurd ((cls_ltr _).mpr hh) (by rw [h]; exact hv)

set_option maxRecDepth 100000 in
set_option maxHeartbeats 6400000 in
theorem iter_in (l T C A n₀ : Nat) (t : List UInt8) (J Jx : List Fnd → World → Prop) (hlen : t.length ≤ 1000) (n : Nat) (hn : 3 ≤ n)
    (hY : ∀ pre x W, J pre W → pre.length < t.length → YieldAt Fence.wide (n - 1) Tryz.prog l #[fndV x] W fun e W' =>
      (e = .returned (.bool true) ∧ J (pre ++ [x]) W' ∧ KeepsTok T C A W W') ∨ (e = .returned (.bool false) ∧ Jx (pre ++ [x]) W'))
    (hJ : ∀ (pre : List Fnd) (W W' : World), J pre W → W.grownBy W' none → J pre W')
    (W : World) (hT : T < n₀) (hC : C < n₀) (hA : A < n₀) (hn0 : n₀ ≤ W.heap.size) (hL : LexBox W T C A (bs t)) (h0 : J [] W) :
    CallsIn Fence.wide n Tryz.prog 70 #[.func (.yield l) #[] #[], .pointer (some ⟨T, 0, none⟩), .pointer (some ⟨A, 0, none⟩)] W fun e W' => (∃ v, e = .returned v) ∧
      ((∃ ys, All1 t ys ∧ J ys W') ∨ (∃ pre, Some1 t pre ∧ Jx pre W')) := by
  refine callsIn_of_wp Tryz.func70 rfl trivial ?_ rfl
  simp only [Tryz.ntmps70, List.size_toArray, List.length_cons, List.length_nil, Nat.reduceAdd, Nat.reduceSub, Array.replicate_succ, Array.replicate_zero, List.push_toArray, List.append_toArray, List.nil_append, List.cons_append]
  have HY : Hid (∀ pre x W, J pre W → pre.length < t.length → YieldAt Fence.wide (n - 1) Tryz.prog l #[fndV x] W fun e W' =>
      (e = .returned (.bool true) ∧ J (pre ++ [x]) W' ∧ KeepsTok T C A W W') ∨ (e = .returned (.bool false) ∧ Jx (pre ++ [x]) W')) := hY
  have HJ := Lib.hid hJ
  clear hY hJ
  refine wpIn_wide.2 ?_
  go_wp2_with fail
  go_step3
  go_wp2_with fail
  go_step3
  go_wp2_with fail
  go_loopw [4] (fun v4 wr => ∃ (i : Nat) (pre : List Fnd), v4 = .int .i64 i ∧ i ≤ t.length ∧ n₀ ≤ wr.heap.size ∧ Hid (LexInv t i pre) ∧ Hid (LexBox wr T C A (bs t)) ∧ Hid (J pre wr)) (fun v4 _ => t.length - (intOf v4).toNat)
  case atStart => exact ⟨0, [], rfl, Nat.zero_le _, hn0, lex_start t, hL, h0⟩
  case round =>
    clear hL h0
    obtain ⟨i, pre, rfl, hi, hwn, HI, HB, HJP⟩ := hrel
    have hsz := bs_size t
    have x0 := HB.out.text
    by_cases hlt : i < t.length
    · have hb256 : byte t i ≤ 255 := by unfold byte; have := (t.getD i 0).toNat_lt; omega
      have HAT := Lib.hid (at_byte hlt)
      go_upto_region 4 with fail
      have HF := Lib.hid (FBox.new wr i)
      generalize wr.alloc (.cells #[.int .i64 0, .string ⟨#[]⟩, .int .i64 0, .int .i64 i, .int .i64 0] 93) = w1 at *
      have HB1 := Lib.hid (HB.out.below (HF.out.below.mono hwn) hT hC hA)
      have HJ1 := Lib.hid (HJ.out pre wr w1 HJP.out (grown_below HF.out.below none))
      have hw1 : wr.heap.size + 1 ≤ w1.heap.size := HF.out.size
      clear x0
      have x0 := HB1.out.text
      have x1 := HB1.out.at'
      go_wp2_with fail
      refine (at_any (bs t) i T C A w1 HB1.out).mono ?_
      rintro e w' ⟨rfl, rfl⟩
      rw [HAT.out]
      obtain ⟨c, hc⟩ : ∃ c, cls (byte t i) = c := ⟨_, rfl⟩
      have HC := Lib.hid hc
      rw [hc]
      clear hc
      go_upto_block 2 with fail
      go_cut [4] (fun v4 wx => ∃ (j : Nat) (x : Fnd), v4 = .int .i64 j ∧ i ≤ j ∧ j ≤ t.length ∧ Hid (FBox wr wx wr.heap.size x) ∧ Hid (All1 t (pre ++ [{ x with text := sub t i j }]) ∧ (x.err = 0 → i < j ∧ LexInv t j (pre ++ [{ x with text := sub t i j }]))))
      case first =>
        have hcc := cls_cases (byte t i)
        rw [HC.out] at hcc
        rcases hcc with rfl | rfl | rfl | rfl | rfl | rfl | rfl | rfl | rfl
        · have x4 := HF.out.c4
          have xf := HF.out.free 4
          have hl : ltr (byte t i) = false := noltr HC.out (by omega)
          have HF2 := Lib.hid (HF.out.err' 5)
          have HO := Lib.hid (lex_other (x := { ({ (⟨0, [], 0, (i : Int), 0⟩ : Fnd) with err := 5 } : Fnd) with text := sub t i i }) HI.out hlt hl (by simp))
          clear hl
          go_wp2_with fail
          go_meet
          case rel => exact ⟨i, _, rfl, Nat.le_refl _, by omega, HF2, HO.out.1, fun e => by simp at e⟩
        · -- a blank
          have hl : ltr (byte t i) = false := noltr HC.out (by omega)
          have HI' := Lib.hid (lex_skip HI.out hlt (Nat.lt_succ_self i) hlt hl)
          clear hl
          go_wp2_with fail
          exact ⟨⟨i + 1, pre, rfl, hlt, by omega, HI', HB1, HJ1⟩, by simp only [intOf]; omega⟩
        · -- a remark
          have hl : ltr (byte t i) = false := noltr HC.out (by omega)
          have h35 := cls2 HC.out
          go_wp2_with fail
          go_loopw [4] (fun v4 wx => ∃ j : Nat, v4 = .int .i64 j ∧ w1 = wx ∧ i ≤ j ∧ j ≤ t.length) (fun v4 _ => t.length - (intOf v4).toNat)
          case atStart => exact ⟨i, rfl, rfl, Nat.le_refl _, by omega⟩
          case round =>
            obtain ⟨j, rfl, rfl, hij, hj⟩ := hrel
            by_cases hjl : j < t.length
            · have hjs : j < (bs t).size := by rw [bs_size]; exact hjl
              obtain ⟨d, hd⟩ : ∃ d : Nat, ((bs t)[j]'hjs).toNat = d := ⟨_, rfl⟩
              have HD := Lib.hid hd
              by_cases h10 : (d : Int) = 10
              · have hlast : i < j := by
                  rcases Nat.lt_or_ge i j with h | h
                  · exact h
                  · have : i = j := by omega
                    subst this
                    rw [byte_get hjl hjs] at hd
                    omega
                have HI' := Lib.hid (lex_skip HI.out hlt hlast hj hl)
                clear HD
                go_wp2_with fail
                exact ⟨⟨j, pre, rfl, hj, by omega, HI', HB1, HJ1⟩, by simp only [intOf]; omega⟩
              · clear HD
                go_wp2_with fail
                go_roundw
                case rel => exact ⟨j + 1, by go_num, trivial, by omega, hjl⟩
                case measure => simp [intOf]; omega
            · have hlast : i < j := by omega
              have HI' := Lib.hid (lex_skip HI.out hlt hlast hj hl)
              go_wp2_with fail
              exact ⟨⟨j, pre, rfl, hj, by omega, HI', HB1, HJ1⟩, by simp only [intOf]; omega⟩
        · -- a name
          have hl : ltr (byte t i) = true := (cls_ltr _).mp HC.out
          go_wp2_with fail
          refine (at_any (bs t) i T C A w1 HB1.out).mono ?_
          rintro e w' ⟨rfl, rfl⟩
          go_wp2_with fail
          go_loopw [4, 7] (fun v4 v7 wx => ∃ j : Nat, v4 = .int .i64 j ∧ v7 = .int .u8 (atS (bs t) j) ∧ w1 = wx ∧ i ≤ j ∧ j ≤ t.length ∧ Hid (∀ k, i ≤ k → k < j → wrd (byte t k) = true)) (fun v4 _ _ => t.length - (intOf v4).toNat)
          case atStart => exact ⟨i, rfl, rfl, rfl, Nat.le_refl _, by omega, fun k h1 h2 => by omega⟩
          case round =>
            obtain ⟨j, rfl, rfl, rfl, hij, hj, HW⟩ := hrel
            obtain ⟨d, hd⟩ : ∃ d, atS (bs t) j = d := ⟨_, rfl⟩
            have HD := Lib.hid hd
            rw [hd]
            clear hd
            rcases word_cases HD.out with h345 | ⟨h3, h4, h5, HE⟩
            · obtain ⟨hjl, hw⟩ := word_on HD.out h345
              have HW2 := Lib.hid (word_more HW.out hw)
              clear hw HW
              rcases h345 with rfl | rfl | rfl
              · go_wp2_with fail
                refine (at_any (bs t) (j + 1) T C A w1 HB1.out).mono ?_
                rintro e w' ⟨rfl, rfl⟩
                go_wp2_with fail
                go_roundw
                case rel => exact ⟨j + 1, by go_num, rfl, trivial, by omega, hjl, HW2⟩
                case measure => simp [intOf]; omega
              · go_wp2_with fail
                refine (at_any (bs t) (j + 1) T C A w1 HB1.out).mono ?_
                rintro e w' ⟨rfl, rfl⟩
                go_wp2_with fail
                go_roundw
                case rel => exact ⟨j + 1, by go_num, rfl, trivial, by omega, hjl, HW2⟩
                case measure => simp [intOf]; omega
              · go_wp2_with fail
                refine (at_any (bs t) (j + 1) T C A w1 HB1.out).mono ?_
                rintro e w' ⟨rfl, rfl⟩
                go_wp2_with fail
                go_roundw
                case rel => exact ⟨j + 1, by go_num, rfl, trivial, by omega, hjl, HW2⟩
                case measure => simp [intOf]; omega
            · have hlast : i < j := by
                rcases Nat.lt_or_ge i j with h | h
                · exact h
                · have : i = j := by omega
                  subst this
                  exact absurd (HD.out.symm.trans (HAT.out.trans HC.out)) h3
              have b3 : (d == 3) = false := by simpa using h3
              have b4 : (d == 4) = false := by simpa using h4
              have b5 : (d == 5) = false := by simpa using h5
              have x5 := HF.out.c0
              have xf5 := HF.out.free 0
              have HK := Lib.hid (HF.out.kind' 1)
              by_cases h24 : 24 < j - i
              · have h24' : (24 : Int) < (j : Int) - i := by omega
                have x4 := HK.out.c4
                have xf4 := HK.out.free 4
                have HF2 := Lib.hid (HK.out.err' 3)
                have HO := Lib.hid (lex_word (x := ⟨1, sub t i j, 0, (i : Int), 3⟩) HI.out hlt hlast hj hl HW.out HE rfl rfl (by rw [if_pos h24]))
                clear HK hl HW HE h24 HF
                go_wp2_with fail
                go_meet
                case rel => exact ⟨j, _, rfl, hij, hj, HF2, HO.out.1, fun _ => ⟨hlast, HO.out.2⟩⟩
              · have h24' : (j : Int) - i ≤ 24 := by omega
                have HO := Lib.hid (lex_word (x := ⟨1, sub t i j, 0, (i : Int), 0⟩) HI.out hlt hlast hj hl HW.out HE rfl rfl (by rw [if_neg h24]))
                clear hl HW HE h24 HF
                go_wp2_with fail
                go_meet
                case rel => exact ⟨j, _, rfl, hij, hj, HK, HO.out.1, fun _ => ⟨hlast, HO.out.2⟩⟩
        · -- a number
          have hl : ltr (byte t i) = false := noltr HC.out (by omega)
          go_wp2_with fail
          go_loopw [4] (fun v4 wx => ∃ j : Nat, v4 = .int .i64 j ∧ w1 = wx ∧ i ≤ j ∧ j ≤ t.length ∧ Hid (∀ k, i ≤ k → k < j → dgt (byte t k) = true)) (fun v4 _ => t.length - (intOf v4).toNat)
          case atStart => exact ⟨i, rfl, rfl, Nat.le_refl _, by omega, fun k h1 h2 => by omega⟩
          case round =>
            obtain ⟨j, rfl, rfl, hij, hj, HW⟩ := hrel
            go_wp2_with fail
            refine (at_any (bs t) j T C A w1 HB1.out).mono ?_
            rintro e w' ⟨rfl, rfl⟩
            obtain ⟨d, hd⟩ : ∃ d, atS (bs t) j = d := ⟨_, rfl⟩
            have HD := Lib.hid hd
            rw [hd]
            clear hd
            by_cases h4 : d = 4
            · subst h4
              obtain ⟨hjl, hw⟩ := digit_on HD.out
              have HW2 := Lib.hid (word_more HW.out hw)
              clear hw HW
              go_wp2_with fail
              go_roundw
              case rel => exact ⟨j + 1, by go_num, trivial, by omega, hjl, HW2⟩
              case measure => simp [intOf]; omega
            · have hlast : i < j := by
                rcases Nat.lt_or_ge i j with h | h
                · exact h
                · have : i = j := by omega
                  subst this
                  exact absurd (HD.out.symm.trans (HAT.out.trans HC.out)) h4
              have x5 := HF.out.c0
              have xf5 := HF.out.free 0
              have HK := Lib.hid (HF.out.kind' 2)
              go_upto_region 23 with fail
              generalize (w1.setCell ⟨wr.heap.size, 0, none⟩ (.int .i64 2)) = w2 at *
              have HB2 := Lib.hid (HB.out.below (HK.out.below.mono hwn) hT hC hA)
              have x6 := HB2.out.text
              have x7 := HB2.out.at'
              have x4 := HK.out.c4
              have xf4 := HK.out.free 4
              have HE6 := Lib.hid (HK.out.err' 6)
              clear x0 x1 x5 xf5
              go_wp2_with fail
              refine (at_any (bs t) j T C A w2 HB2.out).mono ?_
              rintro e w' ⟨rfl, rfl⟩
              rw [HD.out]
              have HO := Lib.hid (fun (n e : Int) => lex_other (x := ⟨2, sub t i j, n, (i : Int), e⟩) HI.out hlt hl (by simp))
              by_cases h10 : 10 < j - i
              · have h10' : (10 : Int) < (j : Int) - i := by omega
                clear h10
                go_wp2_with fail
                go_meet
                case rel => exact ⟨j, _, rfl, hij, hj, HE6, (HO.out 0 6).1, fun e => by simp at e⟩
              have h10' : (j : Int) - i ≤ 10 := by omega
              by_cases hd3 : d = 3
              · subst hd3
                clear h10
                go_wp2_with fail
                go_meet
                case rel => exact ⟨j, _, rfl, hij, hj, HE6, (HO.out 0 6).1, fun e => by simp at e⟩
              by_cases hd5 : d = 5
              · subst hd5
                clear h10
                go_wp2_with fail
                go_meet
                case rel => exact ⟨j, _, rfl, hij, hj, HE6, (HO.out 0 6).1, fun e => by simp at e⟩
              have b3 : (d == 3) = false := by simpa using hd3
              have b5 : (d == 5) = false := by simpa using hd5
              obtain ⟨hs18, m, hm⟩ := sub_atoi hlast hj (by omega) HW.out
              have HM := Lib.hid (And.intro hs18 hm)
              clear h10 hs18 hm HE6 x4 xf4 HW
              go_wp2_with fail
              rw [bs_sub]
              refine (Tryz.strconv_Atoi _ m HM.out.1 HM.out.2 w2).mono ?_
              rintro e w' ⟨rfl, q, rfl⟩
              have HF3 := Lib.hid (HK.out.step (Joins.below_bytesWorld w2.heap.size w2 5 q (Nat.le_refl _)))
              generalize Lib.bytesWorld w2 5 q = w3 at *
              have x8 := HF3.out.c2
              have xf8 := HF3.out.free 2
              have HF4 := Lib.hid (HF3.out.num' m)
              go_wp2_with fail
              go_meet
              case rel => exact ⟨j, _, rfl, hij, hj, HF4, (HO.out m 0).1, fun _ => ⟨hlast, (HO.out m 0).2 j hlast hj⟩⟩
        · -- a line below
          have x4 := HF.out.c4
          have xf := HF.out.free 4
          have hl : ltr (byte t i) = false := noltr HC.out (by omega)
          have HF2 := Lib.hid (HF.out.err' 5)
          have HO := Lib.hid (lex_other (x := { ({ (⟨0, [], 0, (i : Int), 0⟩ : Fnd) with err := 5 } : Fnd) with text := sub t i i }) HI.out hlt hl (by simp))
          clear hl
          go_wp2_with fail
          go_meet
          case rel => exact ⟨i, _, rfl, Nat.le_refl _, by omega, HF2, HO.out.1, fun e => by simp at e⟩
        · -- a symbol
          have hl : ltr (byte t i) = false := noltr HC.out (by omega)
          have x0' := HF.out.free 0
          have x1' := HF.out.c0
          have HK := Lib.hid (HF.out.kind' 3)
          go_upto_region 32 with fail
          generalize (w1.setCell ⟨wr.heap.size, 0, none⟩ (.int .i64 3)) = w2 at *
          have HB2 := Lib.hid (HB.out.below (HK.out.below.mono hwn) hT hC hA)
          have x6 := HB2.out.text
          have x7 := HB2.out.at'
          have HO := Lib.hid (fun (j : Nat) (e : Int) => lex_other (x := ⟨3, sub t i j, 0, (i : Int), e⟩) HI.out hlt hl (by simp))
          clear x0 x1 x0' x1'
          go_wp2_with fail
          refine (at_any (bs t) i T C A w2 HB2.out).mono ?_
          rintro e w' ⟨rfl, rfl⟩
          rw [HAT.out, HC.out]
          go_wp2_with fail
          go_meet
          case rel => exact ⟨i + 1, _, rfl, by omega, hlt, HK, (HO.out (i + 1) 0).1, fun _ => ⟨by omega, (HO.out (i + 1) 0).2 (i + 1) (by omega) hlt⟩⟩
        · -- a symbol
          have hl : ltr (byte t i) = false := noltr HC.out (by omega)
          have x0' := HF.out.free 0
          have x1' := HF.out.c0
          have HK := Lib.hid (HF.out.kind' 3)
          go_upto_region 32 with fail
          generalize (w1.setCell ⟨wr.heap.size, 0, none⟩ (.int .i64 3)) = w2 at *
          have HB2 := Lib.hid (HB.out.below (HK.out.below.mono hwn) hT hC hA)
          have x6 := HB2.out.text
          have x7 := HB2.out.at'
          have HO := Lib.hid (fun (j : Nat) (e : Int) => lex_other (x := ⟨3, sub t i j, 0, (i : Int), e⟩) HI.out hlt hl (by simp))
          clear x0 x1 x0' x1'
          go_wp2_with fail
          refine (at_any (bs t) i T C A w2 HB2.out).mono ?_
          rintro e w' ⟨rfl, rfl⟩
          rw [HAT.out, HC.out]
          by_cases hnx : i + 1 < t.length
          · have hjs : i + 1 < (bs t).size := by rw [bs_size]; exact hnx
            obtain ⟨d, hd⟩ : ∃ d : Nat, ((bs t)[i + 1]'hjs).toNat = d := ⟨_, rfl⟩
            have hd' : ((bs t)[((i : Int) + 1).toNat]'hjs).toNat = d := hd
            by_cases h61 : (d : Int) = 61
            · go_wp2_with fail
              go_meet
              case rel => exact ⟨i + 2, _, rfl, by omega, hnx, HK, (HO.out (i + 2) 0).1, fun _ => ⟨by omega, (HO.out (i + 2) 0).2 (i + 2) (by omega) hnx⟩⟩
            · go_wp2_with fail
              go_meet
              case rel => exact ⟨i + 1, _, rfl, by omega, hlt, HK, (HO.out (i + 1) 0).1, fun _ => ⟨by omega, (HO.out (i + 1) 0).2 (i + 1) (by omega) hlt⟩⟩
          · go_wp2_with fail
            go_meet
            case rel => exact ⟨i + 1, _, rfl, by omega, hlt, HK, (HO.out (i + 1) 0).1, fun _ => ⟨by omega, (HO.out (i + 1) 0).2 (i + 1) (by omega) hlt⟩⟩
        · -- a symbol
          have hl : ltr (byte t i) = false := noltr HC.out (by omega)
          have x0' := HF.out.free 0
          have x1' := HF.out.c0
          have HK := Lib.hid (HF.out.kind' 3)
          go_upto_region 32 with fail
          generalize (w1.setCell ⟨wr.heap.size, 0, none⟩ (.int .i64 3)) = w2 at *
          have HB2 := Lib.hid (HB.out.below (HK.out.below.mono hwn) hT hC hA)
          have x6 := HB2.out.text
          have x7 := HB2.out.at'
          have HO := Lib.hid (fun (j : Nat) (e : Int) => lex_other (x := ⟨3, sub t i j, 0, (i : Int), e⟩) HI.out hlt hl (by simp))
          clear x0 x1 x0' x1'
          go_wp2_with fail
          refine (at_any (bs t) i T C A w2 HB2.out).mono ?_
          rintro e w' ⟨rfl, rfl⟩
          rw [HAT.out, HC.out]
          by_cases hnx : i + 1 < t.length
          · have hjs : i + 1 < (bs t).size := by rw [bs_size]; exact hnx
            obtain ⟨d, hd⟩ : ∃ d : Nat, ((bs t)[i + 1]'hjs).toNat = d := ⟨_, rfl⟩
            have hd' : ((bs t)[((i : Int) + 1).toNat]'hjs).toNat = d := hd
            by_cases h61 : (d : Int) = 61
            · go_wp2_with fail
              go_meet
              case rel => exact ⟨i + 2, _, rfl, by omega, hnx, HK, (HO.out (i + 2) 0).1, fun _ => ⟨by omega, (HO.out (i + 2) 0).2 (i + 2) (by omega) hnx⟩⟩
            · have x4 := HK.out.c4
              have xf4 := HK.out.free 4
              have HE5 := Lib.hid (HK.out.err' 5)
              go_wp2_with fail
              go_meet
              case rel => exact ⟨i + 1, _, rfl, by omega, hlt, HE5, (HO.out (i + 1) 5).1, fun e => by simp at e⟩
          · have x4 := HK.out.c4
            have xf4 := HK.out.free 4
            have HE5 := Lib.hid (HK.out.err' 5)
            go_wp2_with fail
            go_meet
            case rel => exact ⟨i + 1, _, rfl, by omega, hlt, HE5, (HO.out (i + 1) 5).1, fun e => by simp at e⟩
      case rest =>
        obtain ⟨j, x, rfl, hij, hj, HX, HA1⟩ := hcut
        clear HF HB1 HJ1 hw1 x0 x1 HC HAT
        have HBX := Lib.hid (HB.out.below (HX.out.below.mono hwn) hT hC hA)
        have x0 := HBX.out.text
        have x1 := HX.out.c1
        have xf1 := HX.out.free 1
        have HT1 := Lib.hid (HX.out.text' (sub t i j))
        go_upto_region 38 with fail
        rw [bs_sub]
        generalize (wc.setCell ⟨wr.heap.size, 1, none⟩ (.string (bs (sub t i j)))) = w3 at *
        have HJ3 := Lib.hid (HJ.out pre wr w3 HJP.out (grown_below HT1.out.below none))
        have hpl : pre.length < t.length := Nat.lt_of_le_of_lt HI.out.2.1 hlt
        have y0 := HT1.out.c0
        have y1 := HT1.out.c1
        have y2 := HT1.out.c2
        have y3 := HT1.out.c3
        have y4 := HT1.out.c4
        clear x0 x1 xf1 HBX
        refine (wpIn_wide (n := n)).1 ?_
        obtain ⟨fn, tmps, assign, body, hy, hR⟩ := HY.out pre { x with text := sub t i j } w3 HJ3.out hpl
        dsimp only [fndV] at hy
        gi_wp2
        refine ⟨fun _ => by omega, hR.mono ?_⟩
        clear hy hR y0 y1 y2 y3 y4
        rintro e W' (⟨rfl, hJ', hk⟩ | ⟨rfl, hJx'⟩)
        · have HBL := Lib.hid ((hk.found _ _ _ HT1.out.blk).trans HT1.out.blk)
          have y4 : W'.cell? ⟨wr.heap.size, 4, none⟩ = some (.int .i64 x.err) := by rw [cell_of_row _ _ _ _ _ _ HBL.out]; rfl
          have HBW := Lib.hid (KeepsTok.lex (HB.out.below (HT1.out.below.mono hwn) hT hC hA) hk)
          have HJ' := Lib.hid hJ'
          have hsW : n₀ ≤ W'.heap.size := by have := hk.size; have := HT1.out.size; omega
          clear hJ' hk HBL
          obtain ⟨q, hq⟩ : ∃ q, x.err = q := ⟨_, rfl⟩
          have HQ := Lib.hid hq
          rw [hq] at y4
          clear hq
          by_cases h0 : q = 0
          · subst h0
            have HLI := Lib.hid (HA1.out.2 HQ.out)
            gi_wp2
            go_wp2_with fail
            go_roundw
            case rel => exact ⟨j, _, by go_num, hj, hsW, HLI.out.2, HBW, HJ'⟩
            case measure => have := HLI.out.1; simp [intOf]; omega
          · have b0 : (q == 0) = false := by simpa using h0
            gi_wp2
            go_wp2_with fail
            rw [Exit.noGoto_ret]
            refine bodyPost_ret (results_none rfl _ _ _) rfl ?_
            exact ⟨⟨_, rfl⟩, .inl ⟨_, HA1.out.1, HJ'.out⟩⟩
        · gi_wp2
          go_wp2_with fail
          rw [Exit.noGoto_ret]
          refine bodyPost_ret (results_none rfl _ _ _) rfl ?_
          exact ⟨⟨_, rfl⟩, .inr ⟨_, HA1.out.1.1, hJx'⟩⟩
    · have hi' : i = t.length := by omega
      subst hi'
      go_wp2_with fail
      rw [Exit.noGoto_normal]
      go_end0
      exact ⟨⟨_, rfl⟩, .inl ⟨pre, lex_end HI.out, HJP.out⟩⟩
end Go.Proofs.YtkdbenoleendcaaGreatDoor
