/- refund: what stays of lists while refunds change; the values of the chapter's example; foyerlaw29.head: the walk; refund: the state behind some operations. -/
import Derived.Test.YtgpmhaeiccljaaaDoorRI
namespace Go.Proofs.YtgpmhaeiccljaaaDoor
open Go.RowKit Go.IntWalk

/-- A list of records of at least two cells is as it was behind a step that changes one box of one cell alone. -/
theorem Recs.far {α : Type} {k : Nat} {E : Enc α k} {w w' : World} {ra : Option Addr} {n g : Nat} {xs : List α} {u : Value} {T : TypeId} (hk : 2 ≤ k) (h : Recs E w ra n xs) (hb : w.heap[g]? = some (.cells #[u] T (0, 0))) (hg : w.grownBy w' (some g)) : Recs E w' ra n xs := by
  refine ⟨h.1, fun i hi => ?_⟩
  obtain ⟨b, o, e, c⟩ := h.2 i hi
  refine ⟨b, o, e, fun j hj => ?_⟩
  have hne : b ≠ g := by
    rintro rfl
    have h1 := c 1 (by omega)
    rw [cell_of_row _ _ _ _ _ _ hb] at h1
    have : (#[u] : Array Value)[o + i * k + 1]? = Option.none := Array.getElem?_eq_none (by show 1 ≤ _; omega)
    rw [this] at h1
    simp at h1
  have hl := cell_lt (c j hj)
  rw [← c j hj]
  simp only [World.cell?, hg.block b hl (by simp; omega)]

theorem RefAt.low {w : World} {B B' g : Nat} {l : List MeanT} (h : RefAt w B g l) (hb : B' ≤ B) : RefAt w B' g l := by
  obtain ⟨la, k, c, hh, hB, ho⟩ := h
  exact ⟨la, k, c, hh, Nat.le_trans hb hB, ho.low hb⟩

theorem RefAtR.low {w : World} {B B' g : Nat} {l : List MeanT} (h : RefAtR w B g l) (hb : B' ≤ B) : RefAtR w B' g l := by
  obtain ⟨la, k, c, hh, hB, ho⟩ := h
  exact ⟨la, k, c, hh, Nat.le_trans hb hB, ho.low hb⟩

theorem OwnRecs.far {w w' : World} {B n g : Nat} {la : Option Addr} {l : List MeanT} {u : Value} {T : TypeId} (hT : T ≠ 46) (h : OwnRecs MeanE w B 46 la n l) (hb : w.heap[g]? = some (.cells #[u] T (0, 0))) (hg : w.grownBy w' (some g)) : OwnRecs MeanE w' B 46 la n l :=
  ⟨h.1, fun hn => let ⟨g', e, hg', hr⟩ := h.2 hn; ⟨g', e, hg', hr.grown hg (by
    obtain ⟨arr, ha, _⟩ := hr
    intro e
    cases e
    rw [hb] at ha
    simp only [Option.some.injEq, Obj.cells.injEq] at ha
    exact hT ha.2.1)⟩⟩

/-- The reference's refunds are as they were behind a step of the program's. -/
theorem RefAtR.far {w w' : World} {B g g2 : Nat} {l L : List MeanT} (h : RefAtR w B g2 l) (hr : RefAt w B g L) (hg : w.grownBy w' (some g)) : RefAtR w' B g2 l := by
  obtain ⟨la, k, c, hh, hB, ho⟩ := h
  obtain ⟨la', k', c', hh', _⟩ := hr
  refine ⟨la, k, c, (hg.block g2 (lt_of_block hh) ?_).trans hh, hB, ho.far (by decide) hh' hg⟩
  intro e
  cases e
  rw [hh] at hh'
  simp at hh'

/-- The program's refunds are as they were behind a step of the reference's. -/
theorem RefAt.far {w w' : World} {B g g2 : Nat} {l L : List MeanT} (h : RefAt w B g l) (hr : RefAtR w B g2 L) (hg : w.grownBy w' (some g2)) : RefAt w' B g l := by
  obtain ⟨la, k, c, hh, hB, ho⟩ := h
  obtain ⟨la', k', c', hh', _⟩ := hr
  refine ⟨la, k, c, (hg.block g (lt_of_block hh) ?_).trans hh, hB, ho.far (by decide) hh' hg⟩
  intro e
  cases e
  rw [hh] at hh'
  simp at hh'

theorem Recs.farA {α : Type} {k : Nat} {E : Enc α k} {w w' : World} {ra : Option Addr} {n g B : Nat} {xs : List α} {L : List MeanT} (h : Recs E w ra n xs) (hr : RefAt w B g L) (hg : w.grownBy w' (some g)) (hk : 2 ≤ k := by decide) : Recs E w' ra n xs := by
  obtain ⟨_, _, _, hh, _⟩ := hr
  exact h.far hk hh hg

theorem Recs.farR {α : Type} {k : Nat} {E : Enc α k} {w w' : World} {ra : Option Addr} {n g B : Nat} {xs : List α} {L : List MeanT} (h : Recs E w ra n xs) (hr : RefAtR w B g L) (hg : w.grownBy w' (some g)) (hk : 2 ≤ k := by decide) : Recs E w' ra n xs := by
  obtain ⟨_, _, _, hh, _⟩ := hr
  exact h.far hk hh hg

/-- Below, behind a step that changes a block of the call's own. -/
theorem below_grown {w w1 w2 : World} {g : Nat} (h : Below w.heap.size w w1) (hg : w1.grownBy w2 (some g)) (hl : w.heap.size ≤ g) : Below w.heap.size w w2 :=
  h.grown hg h.size (fun q hq => by cases hq; exact hl)

/-! ### The example -/
theorem paid_right : RightP paidS := by
  refine ⟨by decide, by decide, ?_, ?_, ?_, by decide⟩
  · intro i hi
    match i, hi with
    | 0, _ => decide
    | 1, _ => decide
  · intro i hi
    match i, hi with
    | 0, _ => decide
    | 1, _ => decide
  · intro i j hi hj
    match i, hi with
    | 1, _ =>
      obtain rfl : j = 0 := by omega
      decide

theorem paid_rspl (a : Int) : rsplS paidS a = mpartS paidS a := by unfold rsplS; rw [right_true paid_right]; rfl

theorem part_500 : mpartS paidS 500 = ([(card, 350), (gift, 150)], 0) := by decide
theorem part_1 : mpartS paidS 1 = ([(card, 1)], 0) := by decide
theorem part_1001 : mpartS paidS 1001 = ([], 19) := by decide
theorem part_333 : mpartS paidS 333 = ([(card, 233), (gift, 100)], 0) := by decide
theorem back_333 : backS paidS 333 = [(card, 467), (gift, 200)] := by decide
theorem lost_1 : lostS [(card, 467), (gift, 200)] gift = (200, 0) := by decide
theorem chg_1 : chgS [(card, 467), (gift, 200)] gift = [(card, 467)] := by decide
theorem part_400 : mpartS [(card, 467)] 400 = ([(card, 400)], 0) := by decide
theorem back_400 : backS [(card, 467)] 400 = [(card, 67)] := by decide
theorem part_68 : mpartS [(card, 67)] 68 = ([], 19) := by decide
theorem back_68 : backS [(card, 67)] 68 = [(card, 67)] := by decide
theorem lost_2 : lostS [(card, 67)] gift = (0, 11) := by decide
theorem chg_2 : chgS [(card, 67)] gift = [(card, 67)] := by decide

theorem good_1 : Good [(card, 467), (gift, 200)] := by have := back_good paid_right.good 333; rwa [back_333] at this
theorem good_2 : Good [(card, 467)] := by have := chg_good good_1 gift; rwa [chg_1] at this
theorem good_3 : Good [(card, 67)] := by have := back_good good_2 400; rwa [back_400] at this

/-- Same, of lists that are equal. -/
theorem same_yes (ra rb : Option Addr) (n m c d : Nat) (x : List MeanT) (w : World) (hx : Means w ra n x) (hy : Means w rb m x) (hn : n ≤ 1000) (hm : m ≤ 1000) :
    Calls Tryd.prog 15 #[.slice ra n c, .slice rb m d] w fun e w' => e = .returned (.bool true) ∧ Below w.heap.size w w' :=
  (same_any ra rb n m c d x x w hx hy hn hm).mono fun e w' ⟨h1, q, h2⟩ => ⟨by rw [h1]; simp, by rw [h2]; exact below_drewN (Below.refl _ _) q⟩
end Go.Proofs.YtgpmhaeiccljaaaDoor
namespace Go.Proofs.YtgpmhaeiccljaaaDoor
open Go.RowKit Go.IntWalk

theorem paid_small : ∀ i, i < 2 → (nm paidS i).length ≤ 60 := by decide

set_option maxRecDepth 20000 in
set_option maxHeartbeats 3200000 in
theorem head_any (w : World) : Calls Tryd.prog 9 #[] w fun e w' => e = .returned (.bool true) ∧ Below w.heap.size w w' := by
  go_enter Tryd.func9, Tryd.ntmps9
  go_wp2_with fail
  refine (paid_any w).mono ?_
  rintro e w1 ⟨b1, rfl, hb, hm⟩
  have HP := Lib.hid hm
  have HB1 := Lib.hid hb
  clear hb hm
  go_wp2_with fail
  refine (rfsplit_any _ 2 2 paidS 500 w1 HP.out (by omega) paid_small).mono ?_
  rintro e w2 ⟨laa, ka, ca, rfl, hb, ho⟩
  rw [paid_rspl, part_500] at ho ⊢
  obtain rfl : 2 = ka := ho.1
  have HB2 := Lib.hid (HB1.out.trans (hb.mono HB1.out.size))
  have Ha := Lib.hid ho.recs
  clear hb ho HP
  go_wp2_with fail
  refine (paid_any w2).mono ?_
  rintro e w3 ⟨b3, rfl, hb, hm⟩
  have HP := Lib.hid hm
  have HB3 := Lib.hid (HB2.out.trans (hb.mono HB2.out.size))
  replace Ha := Lib.hid (Ha.out.below hb)
  clear hb hm
  go_wp2_with fail
  refine (rfsplit_any _ 2 2 paidS 1 w3 HP.out (by omega) paid_small).mono ?_
  rintro e w4 ⟨lab, kb, cb, rfl, hb, ho⟩
  rw [paid_rspl, part_1] at ho ⊢
  obtain rfl : 1 = kb := ho.1
  have HB4 := Lib.hid (HB3.out.trans (hb.mono HB3.out.size))
  replace Ha := Lib.hid (Ha.out.below hb)
  have Hb := Lib.hid ho.recs
  clear hb ho HP
  go_wp2_with fail
  refine (paid_any w4).mono ?_
  rintro e w5 ⟨b5, rfl, hb, hm⟩
  have HP := Lib.hid hm
  have HB5 := Lib.hid (HB4.out.trans (hb.mono HB4.out.size))
  replace Ha := Lib.hid (Ha.out.below hb)
  replace Hb := Lib.hid (Hb.out.below hb)
  clear hb hm
  go_wp2_with fail
  refine (rfsplit_any _ 2 2 paidS 1001 w5 HP.out (by omega) paid_small).mono ?_
  rintro e w6 ⟨lax, kx, cx, rfl, hb, ho⟩
  rw [paid_rspl, part_1001] at ho ⊢
  obtain rfl : 0 = kx := ho.1
  have HB6 := Lib.hid (HB5.out.trans (hb.mono HB5.out.size))
  replace Ha := Lib.hid (Ha.out.below hb)
  replace Hb := Lib.hid (Hb.out.below hb)
  clear hb ho HP
  go_wp2_with fail
  refine (paid_any w6).mono ?_
  rintro e w7 ⟨b7, rfl, hb, hm⟩
  have HP := Lib.hid hm
  have HB7 := Lib.hid (HB6.out.trans (hb.mono HB6.out.size))
  replace Ha := Lib.hid (Ha.out.below hb)
  replace Hb := Lib.hid (Hb.out.below hb)
  clear hb hm
  go_wp2_with fail
  refine (new_any _ 2 2 paidS w7 HP.out (by omega) paid_small).mono ?_
  rintro e w8 ⟨hb, ⟨h0, _⟩ | ⟨_, g, rfl, ha⟩⟩
  · rw [right_true paid_right] at h0; simp at h0
  have HB8 := Lib.hid (HB7.out.trans (hb.mono HB7.out.size))
  replace Ha := Lib.hid (Ha.out.below hb)
  replace Hb := Lib.hid (Hb.out.below hb)
  have HA := Lib.hid (ha.low HB7.out.size)
  have hgl := HA.out.le.1
  clear hb ha HP
  go_wp2_with fail
  refine (back_any w.heap.size g paidS 333 w8 HA.out (by first | exact paid_right.good | exact good_1 | exact good_2 | exact good_3) (by decide)).mono ?_
  rintro e w9 ⟨lac, kc, cc, rfl, hg, ho, ha⟩
  rw [part_333] at ho ⊢
  rw [back_333] at ha
  obtain rfl : 2 = kc := ho.1
  replace Ha := Lib.hid (Ha.out.farA HA.out hg)
  replace Hb := Lib.hid (Hb.out.farA HA.out hg)
  have HB9 := Lib.hid (below_grown HB8.out hg hgl)
  have Hc := Lib.hid ho.recs
  replace HA := Lib.hid ha
  clear hg ho ha
  go_wp2_with fail
  refine (charge_any w.heap.size g [(card, 467), (gift, 200)] gift w9 HA.out (by first | exact paid_right.good | exact good_1 | exact good_2 | exact good_3) (by decide)).mono ?_
  rintro e w10 ⟨rfl, hg, ha⟩
  rw [lost_1]
  rw [chg_1] at ha
  replace Ha := Lib.hid (Ha.out.farA HA.out hg)
  replace Hb := Lib.hid (Hb.out.farA HA.out hg)
  replace Hc := Lib.hid (Hc.out.farA HA.out hg)
  have HB10 := Lib.hid (below_grown HB9.out hg hgl)
  replace HA := Lib.hid ha
  clear hg ha
  go_wp2_with fail
  refine (back_any w.heap.size g [(card, 467)] 400 w10 HA.out (by first | exact paid_right.good | exact good_1 | exact good_2 | exact good_3) (by decide)).mono ?_
  rintro e w11 ⟨lad, kd, cd, rfl, hg, ho, ha⟩
  rw [part_400] at ho ⊢
  rw [back_400] at ha
  obtain rfl : 1 = kd := ho.1
  replace Ha := Lib.hid (Ha.out.farA HA.out hg)
  replace Hb := Lib.hid (Hb.out.farA HA.out hg)
  replace Hc := Lib.hid (Hc.out.farA HA.out hg)
  have HB11 := Lib.hid (below_grown HB10.out hg hgl)
  have Hd := Lib.hid ho.recs
  replace HA := Lib.hid ha
  clear hg ho ha
  go_wp2_with fail
  refine (left_any w.heap.size g [(card, 67)] w11 HA.out (by decide)).mono ?_
  rintro e w12 ⟨lal, kl, cl, rfl, _, hb, ho⟩
  obtain rfl : 1 = kl := ho.1
  have HB12 := Lib.hid (HB11.out.trans (hb.mono HB11.out.size))
  replace Ha := Lib.hid (Ha.out.below hb)
  replace Hb := Lib.hid (Hb.out.below hb)
  replace Hc := Lib.hid (Hc.out.below hb)
  replace Hd := Lib.hid (Hd.out.below hb)
  replace HA := Lib.hid (HA.out.below hb)
  have Hl := Lib.hid ho.recs
  clear hb ho
  go_wp2_with fail
  refine (back_any w.heap.size g [(card, 67)] 68 w12 HA.out (by first | exact paid_right.good | exact good_1 | exact good_2 | exact good_3) (by decide)).mono ?_
  rintro e w13 ⟨lay, ky, cy, rfl, hg, ho, ha⟩
  rw [part_68] at ho ⊢
  rw [back_68] at ha
  obtain rfl : 0 = ky := ho.1
  replace Ha := Lib.hid (Ha.out.farA HA.out hg)
  replace Hb := Lib.hid (Hb.out.farA HA.out hg)
  replace Hc := Lib.hid (Hc.out.farA HA.out hg)
  replace Hd := Lib.hid (Hd.out.farA HA.out hg)
  replace Hl := Lib.hid (Hl.out.farA HA.out hg)
  have HB13 := Lib.hid (below_grown HB12.out hg hgl)
  replace HA := Lib.hid ha
  clear hg ho ha
  go_wp2_with fail
  refine (charge_any w.heap.size g [(card, 67)] gift w13 HA.out (by first | exact paid_right.good | exact good_1 | exact good_2 | exact good_3) (by decide)).mono ?_
  rintro e w14 ⟨rfl, hg, ha⟩
  rw [lost_2]
  rw [chg_2] at ha
  replace Ha := Lib.hid (Ha.out.farA HA.out hg)
  replace Hb := Lib.hid (Hb.out.farA HA.out hg)
  replace Hc := Lib.hid (Hc.out.farA HA.out hg)
  replace Hd := Lib.hid (Hd.out.farA HA.out hg)
  replace Hl := Lib.hid (Hl.out.farA HA.out hg)
  have HB14 := Lib.hid (below_grown HB13.out hg hgl)
  replace HA := Lib.hid ha
  clear hg ha
  go_wp2_with fail
  refine (backnil_any 0 w14).mono ?_
  rintro e wq ⟨rfl, rfl⟩
  have hba := Joins.below_alloc1 w14 (.cells #[.string (bs card), .int .i64 350, .string (bs gift), .int .i64 150] 46)
  have HY : Hid (Means (w14.alloc (.cells #[.string (bs card), .int .i64 350, .string (bs gift), .int .i64 150] 46)) (some ⟨w14.heap.size, 0, none⟩) 2 [(card, 350), (gift, 150)]) := two_at (card, 350) (gift, 150) (World.alloc_heap_new w14 _)
  go_wp2_with fail
  refine (same_yes laa _ 2 2 _ _ [(card, 350), (gift, 150)] _ (Ha.out.below hba) HY.out (by decide) (by decide)).mono ?_
  rintro e w15 ⟨rfl, hb⟩
  have HBB := Lib.hid (hba.trans (hb.mono hba.size))
  have HB15 := Lib.hid (HB14.out.trans (HBB.out.mono HB14.out.size))
  replace Hb := Lib.hid (Hb.out.below HBB.out)
  replace Hc := Lib.hid (Hc.out.below HBB.out)
  replace Hd := Lib.hid (Hd.out.below HBB.out)
  replace Hl := Lib.hid (Hl.out.below HBB.out)
  clear hb hba HY HBB Ha
  have hba := Joins.below_alloc1 w15 (.cells #[.string (bs card), .int .i64 1] 46)
  have HY : Hid (Means (w15.alloc (.cells #[.string (bs card), .int .i64 1] 46)) (some ⟨w15.heap.size, 0, none⟩) 1 [(card, 1)]) := flat_one_mean (card, 1) (World.alloc_heap_new w15 _)
  go_wp2_with fail
  refine (same_yes lab _ 1 1 _ _ [(card, 1)] _ (Hb.out.below hba) HY.out (by decide) (by decide)).mono ?_
  rintro e w16 ⟨rfl, hb⟩
  have HBB := Lib.hid (hba.trans (hb.mono hba.size))
  have HB16 := Lib.hid (HB15.out.trans (HBB.out.mono HB15.out.size))
  replace Hc := Lib.hid (Hc.out.below HBB.out)
  replace Hd := Lib.hid (Hd.out.below HBB.out)
  replace Hl := Lib.hid (Hl.out.below HBB.out)
  clear hb hba HY HBB Hb
  have hba := Joins.below_alloc1 w16 (.cells #[.string (bs card), .int .i64 233, .string (bs gift), .int .i64 100] 46)
  have HY : Hid (Means (w16.alloc (.cells #[.string (bs card), .int .i64 233, .string (bs gift), .int .i64 100] 46)) (some ⟨w16.heap.size, 0, none⟩) 2 [(card, 233), (gift, 100)]) := two_at (card, 233) (gift, 100) (World.alloc_heap_new w16 _)
  go_wp2_with fail
  refine (same_yes lac _ 2 2 _ _ [(card, 233), (gift, 100)] _ (Hc.out.below hba) HY.out (by decide) (by decide)).mono ?_
  rintro e w17 ⟨rfl, hb⟩
  have HBB := Lib.hid (hba.trans (hb.mono hba.size))
  have HB17 := Lib.hid (HB16.out.trans (HBB.out.mono HB16.out.size))
  replace Hd := Lib.hid (Hd.out.below HBB.out)
  replace Hl := Lib.hid (Hl.out.below HBB.out)
  clear hb hba HY HBB Hc
  have hba := Joins.below_alloc1 w17 (.cells #[.string (bs card), .int .i64 400] 46)
  have HY : Hid (Means (w17.alloc (.cells #[.string (bs card), .int .i64 400] 46)) (some ⟨w17.heap.size, 0, none⟩) 1 [(card, 400)]) := flat_one_mean (card, 400) (World.alloc_heap_new w17 _)
  go_wp2_with fail
  refine (same_yes lad _ 1 1 _ _ [(card, 400)] _ (Hd.out.below hba) HY.out (by decide) (by decide)).mono ?_
  rintro e w18 ⟨rfl, hb⟩
  have HBB := Lib.hid (hba.trans (hb.mono hba.size))
  have HB18 := Lib.hid (HB17.out.trans (HBB.out.mono HB17.out.size))
  replace Hl := Lib.hid (Hl.out.below HBB.out)
  clear hb hba HY HBB Hd
  have hba := Joins.below_alloc1 w18 (.cells #[.string (bs card), .int .i64 67] 46)
  have HY : Hid (Means (w18.alloc (.cells #[.string (bs card), .int .i64 67] 46)) (some ⟨w18.heap.size, 0, none⟩) 1 [(card, 67)]) := flat_one_mean (card, 67) (World.alloc_heap_new w18 _)
  go_wp2_with fail
  refine (same_yes lal _ 1 1 _ _ [(card, 67)] _ (Hl.out.below hba) HY.out (by decide) (by decide)).mono ?_
  rintro e w19 ⟨rfl, hb⟩
  have HBB := Lib.hid (hba.trans (hb.mono hba.size))
  have HB19 := Lib.hid (HB18.out.trans (HBB.out.mono HB18.out.size))
  clear hb hba HY HBB Hl
  go_wp2_with fail
  go_ret
  exact ⟨rfl, HB19.out⟩
end Go.Proofs.YtgpmhaeiccljaaaDoor
namespace Go.Proofs.YtgpmhaeiccljaaaDoor
open Go.RowKit Go.IntWalk

/-- What is left behind the first i operations. -/
def doN (l : List MeanT) (ops : List OpT) : Nat → List MeanT
  | 0 => l
  | i + 1 => doLeft (doN l ops i) (oa ops i) (on ops i)

theorem doN_good {l : List MeanT} (h : Good l) (ops : List OpT) : ∀ i, Good (doN l ops i)
  | 0 => h
  | i + 1 => do_good (doN_good h ops i) _ _

theorem doN_len (l : List MeanT) (ops : List OpT) : ∀ i, (doN l ops i).length ≤ l.length
  | 0 => Nat.le_refl _
  | i + 1 => Nat.le_trans (do_len _ _ _) (doN_len l ops i)

/-- What few gives. -/
structure FewP (l : List MeanT) (ops : List OpT) : Prop where
  len : l.length ≤ 30
  name : ∀ i, i < l.length → (nm l i).length ≤ 60
  olen : ops.length ≤ 30
  oname : ∀ i, i < ops.length → (on ops i).length ≤ 60

theorem fewO_p {l : List MeanT} {ops : List OpT} (h : fewO l ops = true) : FewP l ops := by
  obtain ⟨h1, h2, h3⟩ := (fewO_iff l ops).mp h
  obtain ⟨h4, h5⟩ := (few_iff l).mp h2
  exact ⟨h4, h5, h3, h1⟩

theorem part_neg {l : List MeanT} {a : Int} (h : a < 0) : mpartS l a = ([], 1) := by unfold mpartS; rw [if_pos h]
theorem part_big {l : List MeanT} {a : Int} (h : 0 ≤ a) (h1 : totS l < a) : mpartS l a = ([], 19) := by unfold mpartS; rw [if_neg (by omega), if_pos h1]
theorem part_fit {l : List MeanT} {a : Int} (h : 0 ≤ a) (h1 : a ≤ totS l) : (mpartS l a).2 = 0 := by unfold mpartS; rw [if_neg (by omega), if_neg (by omega)]; split <;> rfl

theorem Good.sum {l : List MeanT} (h : Good l) : 0 ≤ totS l ∧ totS l ≤ 1000000000 := ⟨tot_nonneg (fun i hi => by have := h.pos i hi; omega), h.tot⟩
end Go.Proofs.YtgpmhaeiccljaaaDoor
