/- money.Split: the walk. -/
import Derived.Test.YtgpmhaeiccljaaaDoorMR
import Derived.Deep.DeepCutAuto
import Derived.Deep.OwnRows
import Derived.Laws.EntriesVeiled
import Derived.Lib.SmallJoins
namespace Go.Proofs.YtgpmhaeiccljaaaDoor
open Go.RowKit Go.IntWalk

theorem make_ints (n : Nat) (hn : n ≤ 4000) : ∃ arr : Array Value, arr.size = n ∧ (∀ k, k < n → arr[k]? = some (.int .i64 0)) ∧
    ∀ w : World, (Instr.makeSlice 50 (.int .i64 (n : Int)) (.int .i64 (n : Int))).run Tryd.prog w = .ok (.slice (some ⟨w.heap.size, 0, none⟩) n n) (w.alloc (.cells arr 3)) := by
  refine ⟨madeCells #[.int .i64 0] n, size_madeCells _ _, fun k hk => ?_, fun w => ?_⟩
  · simp [madeCells, hk, Nat.mod_one]
  · exact run_make_row' 50 3 (.int .i64 0) 8 Tryd.underlying50 (by kernel_rfl) rfl .i64 .i64 n (by omega) (by omega) w

theorem IntRow.made {w : World} {arr : Array Value} {T : TypeId} {n g : Nat} (hg : g = w.heap.size) (hs : arr.size = n) (hz : ∀ k, k < n → arr[k]? = some (.int .i64 0)) : IntRow (w.alloc (.cells arr T)) g T (List.replicate n 0) := by
  subst hg
  refine ⟨arr, ?_, by simp [hs], fun k hk => ?_⟩
  · show (w.heap.push _)[w.heap.size]? = _
    simp
  · rw [List.length_replicate] at hk
    rw [hz k hk]
    simp [ix, List.getD_eq_getElem?_getD, hk]

/-- Is the split one that is made? -/
def splitB (n : Int) (W : List Int) : Bool := amtB n && (W.all fun x => !badB x) && !(allW W == 0)

theorem bad_iff (x : Int) : badB x = false ↔ 0 ≤ x ∧ x ≤ 1000000000 := by
  unfold badB; simp

/-- What Split returns. -/
def SplitPost (n : Int) (W : List Int) (w : World) (e : Ending) (w' : World) : Prop :=
  Below w.heap.size w w' ∧ ((splitB n W = false ∧ e = .returned (.tuple #[.slice none 0 0, .int .i64 1])) ∨
    (splitB n W = true ∧ ∃ g, e = .returned (.tuple #[.slice (some ⟨g, 0, none⟩) W.length W.length, .int .i64 0]) ∧ w.heap.size ≤ g ∧ IntRow w' g 3 (splitS n W)))

/-- The variables of Split that the functions within it read. -/
structure BoxA (w : World) (h : Nat) (n : Int) (ra : Option Addr) (k c : Nat) (al : Int) : Prop where
  num : w.cell? ⟨h, 0, none⟩ = some (.int .i64 n)
  ws : w.cell? ⟨h + 1, 0, none⟩ = some (.slice ra k c)
  all : w.cell? ⟨h + 2, 0, none⟩ = some (.int .i64 al)
  free : w.frozen? ⟨h + 2, 0, none⟩ = false
  size : w.heap.size = h + 3

structure BoxS (w : World) (h : Nat) (n : Int) (ra : Option Addr) (k c : Nat) (al sg : Int) : Prop where
  cells : w.cell? ⟨h, 0, none⟩ = some (.int .i64 n) ∧ w.cell? ⟨h + 1, 0, none⟩ = some (.slice ra k c) ∧ w.cell? ⟨h + 2, 0, none⟩ = some (.int .i64 al)
  sign : w.cell? ⟨h + 3, 0, none⟩ = some (.int .i64 sg)
  free : w.frozen? ⟨h + 3, 0, none⟩ = false
  size : w.heap.size = h + 4

theorem BoxS.num {w : World} {h : Nat} {n : Int} {ra : Option Addr} {k c : Nat} {al sg : Int} (b : BoxS w h n ra k c al sg) : w.cell? ⟨h, 0, none⟩ = some (.int .i64 n) := b.cells.1

theorem BoxS.set {w : World} {h : Nat} {n : Int} {ra : Option Addr} {k c : Nat} {al sg : Int} (b : BoxS w h n ra k c al sg) (v : Int) : BoxS (w.setCell ⟨h + 3, 0, none⟩ (.int .i64 v)) h n ra k c al v :=
  ⟨⟨by rw [World.cell?_setCell_other _ _ _ _ (by simp)]; exact b.cells.1, by rw [World.cell?_setCell_other _ _ _ _ (by simp)]; exact b.cells.2.1, by rw [World.cell?_setCell_other _ _ _ _ (by simp)]; exact b.cells.2.2⟩, World.cell?_setCell_same _ _ _ b.sign, by rw [World.frozen?_setCell]; exact b.free, by rw [World.size_setCell]; exact b.size⟩

/-- The world within the loops of Split. -/
structure BoxL (wr w : World) (h : Nat) (n : Int) (ra : Option Addr) (k c : Nat) (al : Int) (D O : List Int) : Prop where
  below : Below w.heap.size w wr
  caps : Caps wr (h + 3) h (h + 1) (h + 2) (signS n) n ra k c al
  out : IntRow wr (h + 4) 3 D
  order : IntRow wr (h + 5) 3 O
  size : wr.heap.size = h + 6

theorem boxL_made {w w4 : World} {h : Nat} {n : Int} {ra : Option Addr} {k c : Nat} {al : Int} {arr : Array Value} (hb : Below w.heap.size w w4) (b : BoxS w4 h n ra k c al (signS n)) (hs : arr.size = k) (hz : ∀ i, i < k → arr[i]? = some (.int .i64 0)) :
    BoxL ((w4.alloc (.cells arr 3)).alloc (.cells arr 3)) w h n ra k c al (List.replicate k 0) (List.replicate k 0) := by
  have hs4 := b.size
  have h1 : Below w4.heap.size w4 ((w4.alloc (.cells arr 3)).alloc (.cells arr 3)) := Joins.below_alloc2 _ _ _
  have r1 := IntRow.made (w := w4) (T := 3) (g := h + 4) hs4.symm hs hz
  refine ⟨hb.trans (h1.mono hb.size), ⟨Below.cell_of h1 b.sign, Below.cell_of h1 b.num, Below.cell_of h1 b.cells.2.1, Below.cell_of h1 b.cells.2.2⟩, r1.below (Joins.below_alloc1 _ _), IntRow.made (by simp [hs4]) hs hz, by simp [hs4]⟩

theorem Caps.set {w : World} {s n v a g j : Nat} {sg nv : Int} {ra : Option Addr} {k c : Nat} {al : Int} (h : Caps w s n v a sg nv ra k c al) (u : Value) (h1 : s ≠ g) (h2 : n ≠ g) (h3 : v ≠ g) (h4 : a ≠ g) : Caps (w.setCell ⟨g, j, none⟩ u) s n v a sg nv ra k c al :=
  ⟨by rw [World.cell?_setCell_other _ _ _ _ (by intro e; have := congrArg Addr.block e; simp only at this; omega)]; exact h.sign, by rw [World.cell?_setCell_other _ _ _ _ (by intro e; have := congrArg Addr.block e; simp only at this; omega)]; exact h.num, by rw [World.cell?_setCell_other _ _ _ _ (by intro e; have := congrArg Addr.block e; simp only at this; omega)]; exact h.ws, by rw [World.cell?_setCell_other _ _ _ _ (by intro e; have := congrArg Addr.block e; simp only at this; omega)]; exact h.all⟩

theorem IntRow.apart {w : World} {g g' : Nat} {T : TypeId} {D : List Int} (h : IntRow w g T D) (j : Nat) (u : Value) (hg : g ≠ g') : IntRow (w.setCell ⟨g', j, none⟩ u) g T D := by
  obtain ⟨arr, e, r⟩ := h
  exact ⟨arr, by rw [Below.heap_setCell _ _ _ _ (by simp; omega)]; exact e, r⟩

theorem BoxL.put {wr w : World} {n : Int} {ra : Option Addr} {k c : Nat} {al : Int} {D O : List Int} {i : Nat} (h : BoxL wr w w.heap.size n ra k c al D O) (h1 : i < D.length) (h2 : i < O.length) (x y : Int) :
    BoxL ((wr.setCell ⟨w.heap.size + 4, i, none⟩ (.int .i64 x)).setCell ⟨w.heap.size + 5, i, none⟩ (.int .i64 y)) w w.heap.size n ra k c al (D.set i x) (O.set i y) :=
  ⟨(h.below.setCell (by simp) _).setCell (by simp) _, (h.caps.set _ (by omega) (by omega) (by omega) (by omega)).set _ (by omega) (by omega) (by omega) (by omega),
    (h.out.set i h1 x).apart i _ (by omega), (h.order.apart i _ (by omega)).set i h2 y, by rw [World.size_setCell, World.size_setCell]; exact h.size⟩

theorem nums_of {n : Int} {W : List Int} (h1 : amtB n = true) (h2 : ∀ i, i < W.length → 0 ≤ ix W i ∧ ix W i ≤ 1000000000) (h3 : allW W ≠ 0) (h4 : W.length ≤ 100) : Nums (signS n * n) W := by
  have hn := (amtB_iff n).mp h1
  have hn1 : -1000000000 ≤ n ∧ n ≤ 1000000000 := hn
  have hs : (signS n = -1 ∧ n < 0) ∨ (signS n = 1 ∧ 0 ≤ n) := by unfold signS; split <;> omega
  have h0 : sumN (fun _ => 0) W.length ≤ sumN (ix W) W.length := sumN_le _ _ _ fun i hi => (h2 i hi).1
  rw [sumN_const] at h0
  refine ⟨?_, ?_, h4, h2, ?_⟩
  · rcases hs with ⟨e, h⟩ | ⟨e, h⟩ <;> rw [e] <;> omega
  · rcases hs with ⟨e, h⟩ | ⟨e, h⟩ <;> rw [e] <;> omega
  · unfold allW at *; omega

theorem BoxA.set {w : World} {h : Nat} {n : Int} {ra : Option Addr} {k c : Nat} {al : Int} (b : BoxA w h n ra k c al) (v : Int) : BoxA (w.setCell ⟨h + 2, 0, none⟩ (.int .i64 v)) h n ra k c v :=
  ⟨by rw [World.cell?_setCell_other _ _ _ _ (by simp)]; exact b.num, by rw [World.cell?_setCell_other _ _ _ _ (by simp)]; exact b.ws, World.cell?_setCell_same _ _ _ b.all, by rw [World.frozen?_setCell]; exact b.free, by rw [World.size_setCell]; exact b.size⟩

theorem ix_eq (W : List Int) (i : Nat) (h : i < W.length) : ix W i = W[i] := by
  unfold ix
  rw [List.getD_eq_getElem?_getD, List.getElem?_eq_getElem h]
  rfl

theorem split_no {n : Int} {W : List Int} (h : amtB n = false ∨ (∃ i, i < W.length ∧ badB (ix W i) = true) ∨ allW W = 0) : splitB n W = false := by
  unfold splitB
  rcases h with h | ⟨i, hi, h⟩ | h
  · rw [h]; rfl
  · have : (W.all fun x => !badB x) = false := by
      rw [Bool.eq_false_iff]
      intro ha
      rw [List.all_eq_true] at ha
      have := ha W[i] (List.getElem_mem hi)
      rw [ix_eq _ _ hi] at h
      rw [h] at this
      exact absurd this (by simp)
    rw [this]; simp
  · rw [h]; simp

theorem split_yes {n : Int} {W : List Int} (h1 : amtB n = true) (h2 : ∀ i, i < W.length → 0 ≤ ix W i ∧ ix W i ≤ 1000000000) (h3 : allW W ≠ 0) : splitB n W = true := by
  unfold splitB
  have : (W.all fun x => !badB x) = true := by
    rw [List.all_eq_true]
    intro x hx
    obtain ⟨i, hi, rfl⟩ := List.getElem_of_mem hx
    have := (bad_iff (ix W i)).2 (h2 i hi)
    rw [ix_eq _ _ hi] at this
    rw [this]; rfl
  rw [h1, this]
  simp [h3]

set_option maxRecDepth 10000 in
set_option maxHeartbeats 1600000 in
theorem split_any (n : Int) (ra : Option Addr) (k c : Nat) (W : List Int) (w : World) (hk : k ≤ 100) (hW : Ints w ra k W) :
    Calls Tryd.prog 40 #[.int .i64 n, .slice ra k c] w (SplitPost n W w) := by
  have HW := Lib.hid hW
  have hlen : W.length = k := hW.1
  have HL := Lib.hid hlen
  clear hW hlen
  go_enter Tryd.func40, Tryd.ntmps40
  go_upto_region 3 with fail
  have HB0 : Hid (Below w.heap.size w (((w.alloc (.cells #[.int .i64 n] 3)).alloc (.cells #[.slice ra k c] 50)).alloc (.cells #[.int .i64 0] 3))) :=
    (((Below.refl _ _).alloc (Nat.le_refl _) _).alloc (by simp) _).alloc (by simp; omega) _
  have HC0 : Hid (BoxA (((w.alloc (.cells #[.int .i64 n] 3)).alloc (.cells #[.slice ra k c] 50)).alloc (.cells #[.int .i64 0] 3)) w.heap.size n ra k c 0) :=
    ⟨by simp [go_sem], by simp [go_sem], by simp [go_sem], by simp [go_sem], by simp [go_sem]⟩
  have HW0 := Lib.hid (HW.out.below HB0.out)
  rw [show w.heap.size + 1 + 1 = w.heap.size + 2 from rfl]
  generalize ((w.alloc (.cells #[.int .i64 n] 3)).alloc (.cells #[.slice ra k c] 50)).alloc (.cells #[.int .i64 0] 3) = w1 at *
  have x1 := HC0.out.ws
  have HCT := Lib.hid (contains_any 48 badB ra k c W w1 (by omega) enter_bad HW0.out bad_any)
  go_wp2_with fail
  refine HCT.out.mono ?_
  rintro e w2 ⟨rfl, q, rfl, hq⟩
  have HQ := Lib.hid hq
  clear hq
  cases q
  · have hin : ∀ i, i < k → 0 ≤ ix W i ∧ ix W i ≤ 1000000000 := fun i hi => (bad_iff _).1 (by
      cases hb : badB (ix W i)
      · rfl
      · exact absurd (HQ.out.2 ⟨i, hi, hb⟩) (by simp))
    have HIN := Lib.hid hin
    have HSM := Lib.hid (msum_any ra k c W w1 (by omega) HW0.out (fun i hi => ⟨by have := (hin i hi).1; omega, (hin i hi).2⟩))
    clear hin
    have x2 := HC0.out.all
    have x3 := HC0.out.free
    go_wp2_with fail
    refine HSM.out.mono ?_
    rintro e w3 ⟨rfl, rfl⟩
    have HB1 : Hid (Below w.heap.size w (w1.setCell ⟨w.heap.size + 2, 0, none⟩ (.int .i64 (sumN (ix W) k)))) := HB0.out.setCell (by simp) _
    have HC1 := Lib.hid (HC0.out.set (sumN (ix W) k))
    have HW1 := Lib.hid (HW.out.below HB1.out)
    have HAL : Hid (sumN (ix W) k = allW W) := by show _ = _; unfold allW; rw [HL.out]
    go_upto_region 5 with fail
    generalize w1.setCell ⟨w.heap.size + 2, 0, none⟩ (.int .i64 (sumN (ix W) k)) = w2 at *
    rw [HAL.out] at HC1
    clear HCT HSM x1 x2 x3 HC0 HW0 HB0 HQ
    have x0 := HC1.out.num
    have x1 := HC1.out.ws
    have x2 := HC1.out.all
    go_wp2_with fail
    refine (mvalid_any n w2).mono ?_
    rintro e w3 ⟨rfl, rfl⟩
    obtain ⟨b, hb⟩ : ∃ b, amtB n = b := ⟨_, rfl⟩
    have HAM := Lib.hid hb
    rw [hb]
    clear hb
    cases b
    · have HNO := Lib.hid (split_no (n := n) (W := W) (.inl HAM.out))
      go_wp2_with fail
      go_ret2
      exact ⟨HB1.out, .inl ⟨HNO.out, rfl⟩⟩
    · obtain ⟨al, hal⟩ : ∃ z, allW W = z := ⟨_, rfl⟩
      have HALL := Lib.hid hal
      rw [hal] at x2
      clear hal
      by_cases h0 : al = 0
      · subst h0
        have HNO := Lib.hid (split_no (n := n) (W := W) (.inr (.inr HALL.out)))
        go_wp2_with fail
        go_ret2
        exact ⟨HB1.out, .inl ⟨HNO.out, rfl⟩⟩
      · have e0 : (al == 0) = false := by simp; exact h0
        have HYES : Hid (splitB n W = true) := split_yes HAM.out (by rw [HL.out]; exact HIN.out) (by rw [HALL.out]; exact h0)
        have H0 := Lib.hid h0
        clear h0
        go_upto_region 7 with fail
        have xs := HC1.out.size
        clear x0 x1 x2
        go_upto_region 8 with fail
        have HB2 : Hid (Below w.heap.size w (w2.alloc (.cells #[.int .i64 1] 3))) := HB1.out.alloc (by omega) _
        have HC2 : Hid (BoxS (w2.alloc (.cells #[.int .i64 1] 3)) w.heap.size n ra k c al 1) :=
          ⟨⟨Below.cell_of (Joins.below_alloc1 _ _) HC1.out.num, Below.cell_of (Joins.below_alloc1 _ _) HC1.out.ws, by rw [← HALL.out]; exact Below.cell_of (Joins.below_alloc1 _ _) HC1.out.all⟩, by rw [← xs]; simp [go_sem], by rw [← xs]; simp [go_sem], by simp [xs]⟩
        generalize w2.alloc (.cells #[.int .i64 1] 3) = w3 at *
        clear HC1 HW1 HB1 xs
        have x0 := HC2.out.num
        go_upto_if 31 with fail
        have x1 := HC2.out.sign
        have x2 := HC2.out.free
        go_cut [4] (fun v4 wx => v4 = .slice none 0 0 ∧ Hid (Below w.heap.size w wx ∧ BoxS wx w.heap.size n ra k c al (signS n)))
        case first =>
          by_cases hneg : n < 0
          · have e1 : decide (n < 0) = true := by simp; exact hneg
            have HF : Hid (Below w.heap.size w (w3.setCell ⟨w.heap.size + 3, 0, none⟩ (.int .i64 (-1))) ∧ BoxS (w3.setCell ⟨w.heap.size + 3, 0, none⟩ (.int .i64 (-1))) w.heap.size n ra k c al (signS n)) :=
              ⟨HB2.out.setCell (by simp) _, by rw [show signS n = -1 from if_pos hneg]; exact HC2.out.set _⟩
            clear HB2 HC2
            go_wp2_with fail
            go_meet
            case rel => exact ⟨rfl, HF.out⟩
          · have e1 : decide (n < 0) = false := by simp; omega
            have HF : Hid (Below w.heap.size w w3 ∧ BoxS w3 w.heap.size n ra k c al (signS n)) :=
              ⟨HB2.out, by rw [show signS n = 1 from if_neg hneg]; exact HC2.out⟩
            clear HB2 HC2
            go_wp2_with fail
            go_meet
            case rel => exact ⟨rfl, HF.out⟩
        case rest =>
          obtain ⟨rfl, HC⟩ := hcut
          obtain ⟨w4, rfl⟩ : ∃ y, y = wc := ⟨_, rfl⟩
          clear x0 x1 x2 HB2 HC2
          have HW4 := Lib.hid (HW.out.below HC.out.1)
          have x0 := HC.out.2.cells.2.1
          have xs := HC.out.2.size
          obtain ⟨arr, hs, hz, hmk⟩ := make_ints k (by omega)
          go_upto_region 12 with fail
          have HL0 : Hid (BoxL ((w4.alloc (.cells arr 3)).alloc (.cells arr 3)) w w.heap.size n ra k c al (List.replicate k 0) (List.replicate k 0)) :=
            boxL_made HC.out.1 HC.out.2 hs hz
          have HNM := Lib.hid (nums_of HAM.out (by rw [HL.out]; exact HIN.out) (by rw [HALL.out]; exact H0.out) (by rw [HL.out]; exact hk))
          clear hs hz hmk HC HW4 x0 xs
          generalize (w4.alloc (.cells arr 3)).alloc (.cells arr 3) = w5 at *
          have x0 := HL0.out.caps.ws
          go_wp2_with fail
          clear x0
          go_loopw [11, 12, 40] (fun _ _ v wr => ∃ (i : Nat) (D O : List Int), v = .int .i64 i ∧ i ≤ k ∧ Hid (D.length = k ∧ O.length = k ∧ (∀ j, j < i → ix D j = baseS (signS n * n) W j) ∧ (∀ j, j < i → ix O j = j)) ∧ Hid (BoxL wr w w.heap.size n ra k c al D O))
            (fun _ _ v _ => k - (intOf v).toNat)
          case atStart => exact ⟨0, _, _, rfl, Nat.zero_le _, ⟨List.length_replicate, List.length_replicate, by simp, by simp⟩, HL0.out⟩
          case round =>
            clear HL0
            obtain ⟨i, D, O, rfl, hi, HD, HR⟩ := hrel
            by_cases hlt : i < k
            · have hiW : i < W.length := by rw [HL.out]; exact hlt
              obtain ⟨b, o, hra, c1⟩ := (HW.out.below HR.out.below).2 i hlt
              subst hra
              have x0 := HR.out.caps.num
              have x1 := HR.out.caps.sign
              have x2 := HR.out.caps.all
              have xf1 := HR.out.out.free i
              have xf2 := HR.out.order.free i
              have xc1 := HR.out.out.cell i (by rw [HD.out.1]; exact hlt)
              have xc2 := HR.out.order.cell i (by rw [HD.out.2.1]; exact hlt)
              have hp := HNM.out.prod i hiW
              have hq := (HNM.out.rest i hiW).2.1
              have hlo := HNM.out.lo
              have hhi := HNM.out.hi
              have hpos := HNM.out.pos
              have hb2 : 0 ≤ baseS (signS n * n) W i := base_nonneg HNM.out.lo HNM.out.pos i (HNM.out.each i hiW).1
              have HSET := Lib.hid (BoxL.put HR.out (i := i) (by rw [HD.out.1]; exact hlt) (by rw [HD.out.2.1]; exact hlt) (baseS (signS n * n) W i) i)
              obtain ⟨W1, hW1⟩ : ∃ z, ix W i = z := ⟨_, rfl⟩
              have HBI : Hid (∀ z, baseS (signS n * n) W i = z → ∀ j, j < i + 1 → ix (D.set i z) j = baseS (signS n * n) W j) := by
                intro z hz j hj
                rw [ix_set _ _ _ _ (by rw [HD.out.1]; exact hlt)]
                by_cases h : i = j
                · rw [if_pos h, ← h, hz]
                · rw [if_neg h]; exact HD.out.2.2.1 j (by omega)
              have HOI : Hid (∀ j, j < i + 1 → ix (O.set i (i : Int)) j = j) := by
                intro j hj
                rw [ix_set _ _ _ _ (by rw [HD.out.2.1]; exact hlt)]
                by_cases h : i = j
                · rw [if_pos h, h]
                · rw [if_neg h]; exact HD.out.2.2.2 j (by omega)
              have HLN : Hid (∀ z : Int, (D.set i z).length = k ∧ (O.set i (i : Int)).length = k) := fun z => ⟨by rw [List.length_set]; exact HD.out.1, by rw [List.length_set]; exact HD.out.2.1⟩
              rw [hW1] at c1 hp hq
              obtain ⟨N, hN⟩ : ∃ z, signS n * n = z := ⟨_, rfl⟩
              rw [hN] at hp hq hlo hhi hb2 HSET HBI
              obtain ⟨y, hy⟩ : ∃ z, N * W1 = z := ⟨_, rfl⟩
              rw [hy] at hp hq
              rw [HALL.out] at hq hpos
              obtain ⟨t, ht⟩ : ∃ z, baseS N W i = z := ⟨_, rfl⟩
              rw [ht] at hq hb2 HSET
              have HBJ := Lib.hid (HBI.out t ht)
              have w1' : IntKind.i64.wrap N = N := i64_in _ (by omega)
              have w2' : IntKind.i64.wrap y = y := i64_in _ (by omega)
              have hty : t ≤ y := by rw [← hq]; exact Int.tdiv_le_self _ hp.1
              have w3' : IntKind.i64.wrap t = t := i64_in _ (by omega)
              clear HBI ht hW1 hpos hp hlo hhi hb2 hty hiW
              go_wp2_with fail
              go_roundw
              case rel => exact ⟨i + 1, _, _, by go_num, by omega, ⟨(HLN.out t).1, (HLN.out t).2, by rw [hN]; exact HBJ.out, HOI.out⟩, HSET.out⟩
              case measure => simp [intOf]; omega
            · obtain rfl : k = i := by omega
              have hO : O = idx k := by
                apply list_ext_ix
                · rw [HD.out.2.1, idx_length]
                · intro j hj; rw [HD.out.2.1] at hj; rw [ix_idx k j hj]; exact HD.out.2.2.2 j hj
              have HPA : Hid (PartAt (signS n * n) W D 0) := ⟨by rw [HL.out]; exact HD.out.1, fun j hj => by rw [HD.out.2.2.1 j (by rw [← HL.out]; exact hj), if_neg (by omega)]; omega⟩
              subst hO
              clear HD
              go_upto_region 17 with fail
              have hsz := HR.out.size
              have HBR : Hid (BoxR (wr.alloc (.cells #[restF (w.heap.size + 3) w.heap.size (w.heap.size + 1) (w.heap.size + 2)] 87)) w w.heap.size n ra k c (allW W) D (idx k)) :=
                have hb : Below wr.heap.size wr (wr.alloc (.cells #[restF (w.heap.size + 3) w.heap.size (w.heap.size + 1) (w.heap.size + 2)] 87)) := Joins.below_alloc1 _ _
                ⟨HR.out.below.trans (hb.mono HR.out.below.size), by rw [HALL.out]; exact HR.out.caps.below hb, HR.out.out.below hb, HR.out.order.below hb, by rw [← hsz]; simp [go_sem]⟩
              go_upto_region 18 with fail
              have HSO := Lib.hid (split_sorts HW.out HNM.out HBR.out)
              unfold restF at HBR HSO
              generalize wr.alloc (.cells #[.func (.func 51) #[] #[.pointer (some ⟨w.heap.size + 3, 0, none⟩), .pointer (some ⟨w.heap.size, 0, none⟩), .pointer (some ⟨w.heap.size + 1, 0, none⟩), .pointer (some ⟨w.heap.size + 2, 0, none⟩)]] 87) = w6 at *
              clear hsz HR HBR
              go_wp2_with fail
              refine HSO.out.mono ?_
              rintro e w7 ⟨rfl, O, hp, hs, hb7⟩
              have HP := Lib.hid hp
              have HS := Lib.hid hs
              have HB7 := Lib.hid hb7
              clear hp hs hb7 HSO
              have HSUM : Hid (∀ q, Calls Tryd.prog 50 #[.slice (some ⟨w.heap.size + 4, 0, none⟩) k k] (w7.drewN q) fun e w' => e = .returned (.int .i64 (sumN (baseS (signS n * n) W) W.length)) ∧ w' = w7.drewN q) := fun q => by
                have hi := (HB7.out.out.drewN q).ints
                have hdl : D.length = k := by rw [HPA.out.1, HL.out]
                rw [hdl] at hi
                refine (msum_any _ k k D (w7.drewN q) (by omega) hi (fun j hj => ?_)).mono ?_
                · have := nums_base HNM.out j (by rw [HL.out]; exact hj)
                  rw [HPA.out.2 j (by rw [HL.out]; exact hj), if_neg (by omega)]
                  omega
                · rintro e w8 ⟨rfl, rfl⟩
                  rw [HL.out, sumN_congr (ix D) (baseS (signS n * n) W) k (fun j hj => by rw [HPA.out.2 j (by rw [HL.out]; exact hj), if_neg (by omega)]; omega)]
                  exact ⟨rfl, rfl⟩
              have hex := nums_extra HNM.out
              obtain ⟨x, hx⟩ : ∃ x : Nat, extraS (signS n * n) W = x := ⟨(extraS (signS n * n) W).toNat, by omega⟩
              rw [hx, HL.out] at hex
              have HX := Lib.hid hx
              have hlo := HNM.out.lo
              have hhi := HNM.out.hi
              have hxk : x ≤ k := by omega
              have HOL : Hid (O.length = k) := by have := HP.out.length_eq; rw [List.length_range, HL.out] at this; exact this
              have x0 := HB7.out.caps.num
              have x1 := HB7.out.caps.sign
              have HSG := Lib.hid (sign_range n)
              have hfin : Hid (∀ D', SignAt n W D' k → D' = splitS n W) := fun D' h => sign_done (by rw [HL.out]; exact h)
              have hpart : Hid (∀ j, j < k → 0 ≤ partS (signS n * n) W j ∧ partS (signS n * n) W j ≤ 1000000001) := fun j hj => nums_part HNM.out j (by rw [HL.out]; exact hj)
              have hstep : Hid (∀ D' (p : Nat), SignAt n W D' p → p < k → SignAt n W (D'.set p (partS (signS n * n) W p * signS n)) (p + 1)) := fun D' p h hp => sign_step h (by rw [HL.out]; exact hp)
              have hsign0 : Hid (∀ D', PartAt (signS n * n) W D' x → SignAt n W D' 0) := fun D' h => ⟨h.1, fun j hj => by rw [if_neg (by omega)]; exact part_done h HX.out j hj⟩
              have hbase : Hid (∀ j, j < k → 0 ≤ baseS (signS n * n) W j ∧ baseS (signS n * n) W j ≤ 1000000000) := fun j hj => nums_base HNM.out j (by rw [HL.out]; exact hj)
              have hex2 : signS n * n - sumN (baseS (signS n * n) W) W.length = x := HX.out
              obtain ⟨S, hS⟩ : ∃ z, sumN (baseS (signS n * n) W) W.length = z := ⟨_, rfl⟩
              rw [hS] at HSUM hex2
              obtain ⟨N, hN⟩ : ∃ z, signS n * n = z := ⟨_, rfl⟩
              rw [hN] at hex2 hlo hhi HPA hsign0 hpart hstep hbase HS
              have HNN : Hid (N = signS n * n) := hN.symm
              have w1' : IntKind.i64.wrap N = N := i64_in _ (by omega)
              have w2' : IntKind.i64.wrap (N - S) = x := by rw [hex2]; exact i64_in _ (by omega)
              clear hex hx hS hex2 hlo hhi HX HNM
              go_wp2_with fail
              go_quiet ((go_at_call 50; exact Calls.quiet_of_same (HSUM.out _)))
              go_upto_region 20 with fail
              have HB8 := Lib.hid (HB7.out.drewN nq)
              generalize w7.drewN nq = w8 at *
              clear w1' w2' hN x0 x1 HB7 HSUM
              obtain ⟨wo, rfl⟩ : ∃ wo : World, wo = wr := ⟨_, rfl⟩
              go_loopw [73] (fun v wr => ∃ (p : Nat) (E : List Int), v = .int .i64 p ∧ p ≤ x ∧ Hid (PartAt N W E p) ∧ Hid (BoxR wr w w.heap.size n ra k c (allW W) E (O.map fun (j : Nat) => (j : Int))))
                (fun v _ => x - (intOf v).toNat)
              case atStart => exact ⟨0, D, rfl, Nat.zero_le _, HPA, HB8⟩
              case round =>
                clear HB8 HPA
                obtain ⟨p, E, rfl, hpx, HE, HR⟩ := hrel
                by_cases hlt : p < x
                · have hpo : p < O.length := by rw [HOL.out]; omega
                  have hst := part_step HP.out HS.out HE.out hpo
                  obtain ⟨o, ho⟩ : ∃ o, O[p] = o := ⟨_, rfl⟩
                  rw [ho] at hst
                  have hok : o < k := by have := hst.1; rw [HL.out] at this; exact this
                  have hEo : o < E.length := by rw [HE.out.1, HL.out]; exact hok
                  have x0 := HR.out.order.cell p (by rw [List.length_map]; exact hpo)
                  have hixo : ix (O.map fun (j : Nat) => (j : Int)) p = o := by
                    unfold ix
                    rw [List.getD_eq_getElem?_getD, List.getElem?_map, List.getElem?_eq_getElem hpo, ho]
                    rfl
                  rw [hixo] at x0
                  have x1 := HR.out.out.cell o hEo
                  have xf := HR.out.out.free o
                  have hd : 0 ≤ ix E o ∧ ix E o ≤ 1000000001 := by
                    have := hbase.out o hok
                    rw [HE.out.2 o (by rw [HL.out]; exact hok)]
                    split <;> omega
                  have HPUT := Lib.hid (BoxR.put HR.out hEo (ix E o + 1))
                  have HST := Lib.hid hst.2
                  obtain ⟨d, hdd⟩ : ∃ z, ix E o = z := ⟨_, rfl⟩
                  rw [hdd] at x1 hd HPUT HST
                  clear hixo hst ho hdd hEo hpo HE HR
                  go_wp2_with fail
                  go_roundw
                  case rel => exact ⟨p + 1, _, by go_num, by omega, HST, HPUT.out⟩
                  case measure => simp [intOf]; omega
                · obtain rfl : p = x := by omega
                  have HSA := Lib.hid (hsign0.out E HE.out)
                  clear HE HS HP hbase HOL
                  obtain ⟨wi, rfl⟩ : ∃ wi : World, wi = wr := ⟨_, rfl⟩
                  go_wp2_with fail
                  obtain ⟨sg, hsg⟩ : ∃ z, signS n = z := ⟨_, rfl⟩
                  rw [hsg] at hstep
                  have HSG2 := Lib.hid hsg
                  have HSGN : Hid (sg = 1 ∨ sg = -1) := by rw [← hsg]; exact HSG.out
                  clear hsg
                  go_loopw [86] (fun v wr => ∃ (q : Nat) (E : List Int), v = .int .i64 q ∧ q ≤ k ∧ Hid (SignAt n W E q) ∧ Hid (BoxR wr w w.heap.size n ra k c (allW W) E (O.map fun (j : Nat) => (j : Int))))
                    (fun v _ => k - (intOf v).toNat)
                  case atStart => exact ⟨0, E, rfl, Nat.zero_le _, HSA, HR⟩
                  case round =>
                    clear HSA HR
                    obtain ⟨q, F, rfl, hq, HE, HR⟩ := hrel
                    by_cases hlt : q < k
                    · have hF : q < F.length := by rw [HE.out.1, HL.out]; exact hlt
                      have HST := Lib.hid (hstep.out F q HE.out hlt)
                      have hpb := hpart.out q hlt
                      have hix : ix F q = partS N W q := by
                        have := HE.out.2 q (by rw [HL.out]; exact hlt)
                        rw [this, if_neg (by omega)]
                        have e : N = signS n * n := HNN.out
                        rw [e]
                      have HPUT := Lib.hid (BoxR.put HR.out hF (partS N W q * sg))
                      have x0 := HR.out.out.cell q hF
                      have xf := HR.out.out.free q
                      have x1 := HR.out.caps.sign
                      rw [HSG2.out] at x1
                      rw [hix] at x0
                      obtain ⟨z, hz⟩ : ∃ z, partS N W q = z := ⟨_, rfl⟩
                      rw [hz] at x0 hpb HPUT HST
                      have w1' : IntKind.i64.wrap (z * sg) = z * sg := i64_in _ (by rcases HSGN.out with e | e <;> rw [e] <;> omega)
                      clear hz hix hF HE HR
                      go_wp2_with fail
                      go_region
                      go_wp2
                      go_roundw
                      case rel => exact ⟨q + 1, _, by go_num, by omega, HST, HPUT.out.drewN 1⟩
                      case measure => simp [intOf]; omega
                    · obtain rfl : q = k := by omega
                      have HFIN := Lib.hid (hfin.out F HE.out)
                      go_wp2_with fail
                      go_ret2
                      refine ⟨HR.out.below, .inr ⟨HYES.out, w.heap.size + 4, by rw [HL.out]; rfl, ?_, ?_⟩⟩
                      · omega
                      · rw [← HFIN.out]; exact HR.out.out
  · have HNO := Lib.hid (split_no (n := n) (W := W) (.inr (.inl (by obtain ⟨j, hj, h⟩ := HQ.out.1 rfl; exact ⟨j, by rw [HL.out]; exact hj, h⟩))))
    have x0 := HC0.out.num
    have x2 := HC0.out.all
    go_upto_region 5 with fail
    go_wp2_with fail
    refine (mvalid_any n w1).mono ?_
    rintro e w3 ⟨rfl, rfl⟩
    generalize amtB n = b
    cases b
    · go_wp2_with fail
      go_ret2
      exact ⟨HB0.out, .inl ⟨HNO.out, rfl⟩⟩
    · go_wp2_with fail
      go_ret2
      exact ⟨HB0.out, .inl ⟨HNO.out, rfl⟩⟩
end Go.Proofs.YtgpmhaeiccljaaaDoor
