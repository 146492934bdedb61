/- money.Text and Parse: the walks, over the library's contracts. -/
import Derived.Test.YtiapfpdkcdhhoaaDoorShelf
import Derived.Test.YtiapfpdkcdhhoaaDoorMD
import Derived.Lib.SmallJoins
namespace Go.Proofs.YtiapfpdkcdhhoaaDoor
open Go.RowKit Go.IntWalk

/-- What the library's variables hold that Text and Parse read. -/
structure Kit (w : World) : Prop where
  tab : Lib.TabIs Tryd.prog w "internal/strconv.uint64pow10" .u64 Lib.pow10Tab
  max : ∃ m, w.cell? ⟨2, 0, none⟩ = some (.int .i64 m)
  syn : ∃ tp p, w.cell? ⟨0, 0, none⟩ = some (.iface tp p)
  ran : ∃ tp p, w.cell? ⟨1, 0, none⟩ = some (.iface tp p)

theorem below_growN (w : World) (k : Nat) (os : Array Obj) : Below w.heap.size w (Sort.grow (w.drewN k) os) := by
  have h1 : Below w.heap.size w (w.drewN k) := below_drewN (Below.refl _ _) k
  refine h1.trans (c := Sort.grow (w.drewN k) os) ⟨rfl, rfl, rfl, by simp [Sort.grow], fun j hj => ?_⟩
  show (w.heap ++ os)[j]? = w.heap[j]?
  exact Array.getElem?_append_left hj

theorem Kit.below {w w' : World} (h : Kit w) (hb : Below w.heap.size w w') : Kit w' := by
  obtain ⟨m, hm⟩ := h.max
  obtain ⟨t1, p1, h1⟩ := h.syn
  obtain ⟨t2, p2, h2⟩ := h.ran
  exact ⟨Joins.tab_stays (by kernel_rfl : Tryd.prog.globalNamed "internal/strconv.uint64pow10" = some 5) h.tab hb (Nat.le_refl _), ⟨m, Below.cell_of hb hm⟩, ⟨t1, p1, Below.cell_of hb h1⟩, ⟨t2, p2, Below.cell_of hb h2⟩⟩

theorem itoa_nat (a : Nat) : Lib.itoa (a : Int) = Lib.decDigits a := by
  unfold Lib.itoa
  rw [if_neg (by omega), Int.toNat_natCast]

def bs (l : List UInt8) : ByteArray := ⟨l.toArray⟩

theorem nDigits_le (u : Nat) : Lib.nDigits u ≤ u + 1 := by
  induction u using Nat.strongRecOn with
  | _ u ih =>
    by_cases h : u < 10
    · rw [Lib.nDigits_small h]; omega
    · rw [Lib.nDigits_big h]; have := ih (u / 10) (by omega); omega
theorem nDigits_le2 (u : Nat) (h : u ≤ 80000000) : Lib.nDigits u ≤ 7000000 := by
  by_cases h1 : u < 10
  · rw [Lib.nDigits_small h1]; omega
  · rw [Lib.nDigits_big h1]
    by_cases h2 : u / 10 < 10
    · rw [Lib.nDigits_small h2]; omega
    · rw [Lib.nDigits_big h2]; have := nDigits_le (u / 10 / 10); omega
theorem len_le {u : Nat} (h : u ≤ 80000000) : (Lib.decDigits u).length ≤ 7000000 := by
  rw [Lib.decDigits_length]
  exact nDigits_le2 u h

theorem bs_size (l : List UInt8) : (bs l).size = l.length := by show l.toArray.size = _; simp

theorem cat_any (w : World) (x y : List UInt8) (hx : x.length ≤ 8000000) (hy : y.length ≤ 8000000) : (Op.stringOp .add (bs x) (bs y)).run Tryd.prog w = .ok (.string (bs (x ++ y))) w :=
  run_string_add_lists w x y (by omega) (by omega)

theorem bs_tail (l : List UInt8) : (bs l).extract 1 (bs l).size = bs (l.drop 1) := by
  apply ByteArray.ext
  rw [bs_size, ByteArray.data_extract]
  show l.toArray.extract 1 l.length = (l.drop 1).toArray
  rw [List.extract_toArray]
  simp [List.extract]
  exact List.take_of_length_le (by simp)

theorem bs_cat (x y : List UInt8) : bs x ++ bs y = bs (x ++ y) := ByteArray.mk_append_mk x y

/-- What Text returns. -/
def TextPost (t : List UInt8) (w : World) (e : Ending) (w' : World) : Prop := e = .returned (.string (bs t)) ∧ Below w.heap.size w w'

theorem mitoa_any (a : Nat) (ha : a ≤ 2000000000) (w : World) (hk : Kit w) : Calls Tryd.prog 32 #[.int .i64 a] w fun e w' => e = .returned (.string (bs (Lib.decDigits a))) ∧ Below w.heap.size w w' := by
  refine (Tryd.strconv_Itoa (a : Int) (by omega) (by omega) w hk.tab).mono ?_
  rintro e w' ⟨rfl, k, os, rfl⟩
  exact ⟨by rw [itoa_nat]; rfl, below_growN w k os⟩

set_option maxRecDepth 10000 in
set_option maxHeartbeats 3200000 in
theorem text_any (n : Int) (w : World) (hk : Kit w) : Calls Tryd.prog 16 #[.int .i64 n] w (TextPost (textS n) w) := by
  have HK := Lib.hid hk
  clear hk
  obtain ⟨b1, h1⟩ : ∃ b, amtB n = b := ⟨_, rfl⟩
  have H1 := Lib.hid h1
  clear h1
  cases b1
  · have HT : Hid (textS n = []) := by show _ = _; unfold textS; rw [if_neg (fun h => by have := (amtB_iff n).mpr h; rw [H1.out] at this; simp at this)]
    go_enter Tryd.func16, Tryd.ntmps16
    go_wp2_with fail
    refine (mvalid_any n w).mono ?_
    rintro e w' ⟨rfl, rfl⟩
    rw [H1.out]
    go_wp2_with fail
    go_ret
    exact ⟨by rw [HT.out]; rfl, Below.refl _ _⟩
  have hn := (amtB_iff n).mp H1.out
  have hn1 : -1000000000 ≤ n ∧ n ≤ 1000000000 := hn
  obtain ⟨a, ha⟩ : ∃ a : Nat, n.natAbs = a := ⟨_, rfl⟩
  have ha2 : a ≤ 1000000000 := by omega
  obtain ⟨q, hq⟩ : ∃ q : Nat, a / 100 = q := ⟨_, rfl⟩
  obtain ⟨r, hr⟩ : ∃ r : Nat, a % 100 = r := ⟨_, rfl⟩
  have hq2 : q ≤ 10000000 := by omega
  have hr2 : r ≤ 99 := by omega
  have HQR : Hid (((a : Int) / 100 = (q : Int)) ∧ ((a : Int) % 100 = (r : Int))) := by constructor <;> omega
  have HT : Hid (textS n = (if n < 0 then [45] else []) ++ (Lib.decDigits q ++ 46 :: (Lib.decDigits (100 + r)).drop 1)) := by
    show _ = _
    unfold textS
    rw [if_pos hn, ha, hq, hr, drop_hundred (by omega)]
  have HNA : Hid (n.natAbs = a) := ha
  obtain ⟨L1, hL1⟩ : ∃ L, Lib.decDigits q = L := ⟨_, rfl⟩
  obtain ⟨L2, hL2⟩ : ∃ L, Lib.decDigits (100 + r) = L := ⟨_, rfl⟩
  have HS1 : Hid (L1.length ≤ 7000000 ∧ 0 < (bs L1).size) := by
    show _ ∧ _
    rw [bs_size, ← hL1]
    exact ⟨len_le (by omega), List.length_pos_iff.mpr (decDigits_spec q).2.2⟩
  have HS2 : Hid (L2.length ≤ 7000000 ∧ 0 < (bs L2).size) := by
    show _ ∧ _
    rw [bs_size, ← hL2]
    exact ⟨len_le (by omega), List.length_pos_iff.mpr (decDigits_spec (100 + r)).2.2⟩
  have hL1' := Lib.hid hL1
  have hL2' := Lib.hid hL2
  clear hq hr ha hn
  by_cases hneg : n < 0
  · obtain rfl : n = -(a : Int) := by have := HNA.out; omega
    have hqq := HQR.out.1
    have hrr := HQR.out.2
    go_enter Tryd.func16, Tryd.ntmps16
    go_wp2_with fail
    refine (mvalid_any (-(a : Int)) w).mono ?_
    rintro e w' ⟨rfl, rfl⟩
    rw [H1.out]
    go_wp2_with fail
    refine (mitoa_any q (by omega) w HK.out).mono ?_
    rintro e w1 ⟨rfl, hb1⟩
    have HB1 := Lib.hid hb1
    have HK1 := Lib.hid (HK.out.below hb1)
    clear hb1
    rw [hL1'.out]
    have hc1 : (Op.stringOp .add ⟨#[45]⟩ (bs L1)).run Tryd.prog w1 = .ok (.string (bs (45 :: L1))) w1 := cat_any w1 [45] L1 (by simp) (Nat.le_trans HS1.out.1 (by omega))
    have hc2 : (Op.stringOp .add (bs (45 :: L1)) ⟨#[46]⟩).run Tryd.prog w1 = .ok (.string (bs ((45 :: L1) ++ [46]))) w1 := cat_any w1 (45 :: L1) [46] (by have := HS1.out.1; first | omega | (simp only [List.length_cons]; omega)) (by simp)
    have hz0 : ¬ ((⟨#[45]⟩ : ByteArray).size + (bs L1).size > 9223372036854775807) := by rw [bs_size]; have := HS1.out.1; simp [ByteArray.size]; omega
    have hz1 : ¬ ((bs (45 :: L1)).size + (⟨#[46]⟩ : ByteArray).size > 9223372036854775807) := by rw [bs_size]; have := HS1.out.1; simp [ByteArray.size]; omega
    go_wp2_with fail
    refine (mitoa_any (100 + r) (by omega) w1 HK1.out).mono ?_
    rintro e w2 ⟨rfl, hb2⟩
    have HB2 := Lib.hid (HB1.out.trans (hb2.mono HB1.out.size))
    clear hb2
    rw [hL2'.out]
    have hz := HS2.out.2
    have hz3 : ¬ (9223372036854775807 < (bs ((45 :: L1) ++ [46])).size + ((bs L2).size - 1)) := by rw [bs_size, bs_size]; have := HS1.out.1; have := HS2.out.1; simp; omega
    go_wp2_with fail
    go_ret
    refine ⟨?_, HB2.out⟩
    rw [HT.out, hL1'.out, hL2'.out, bs_tail, bs_cat, if_pos (by omega)]
    simp
  · obtain rfl : n = (a : Int) := by have := HNA.out; omega
    have e1 : decide ((a : Int) < 0) = false := by simp
    have hqq := HQR.out.1
    have hrr := HQR.out.2
    go_enter Tryd.func16, Tryd.ntmps16
    go_wp2_with fail
    refine (mvalid_any (a : Int) w).mono ?_
    rintro e w' ⟨rfl, rfl⟩
    rw [H1.out]
    go_wp2_with fail
    refine (mitoa_any q (by omega) w HK.out).mono ?_
    rintro e w1 ⟨rfl, hb1⟩
    have HB1 := Lib.hid hb1
    have HK1 := Lib.hid (HK.out.below hb1)
    clear hb1
    rw [hL1'.out]
    have hc1 : (Op.stringOp .add ⟨#[]⟩ (bs L1)).run Tryd.prog w1 = .ok (.string (bs L1)) w1 := cat_any w1 [] L1 (by simp) (Nat.le_trans HS1.out.1 (by omega))
    have hc2 : (Op.stringOp .add (bs L1) ⟨#[46]⟩).run Tryd.prog w1 = .ok (.string (bs (L1 ++ [46]))) w1 := cat_any w1 L1 [46] (by have := HS1.out.1; first | omega | (simp only [List.length_cons]; omega)) (by simp)
    have hz0 : ¬ ((⟨#[]⟩ : ByteArray).size + (bs L1).size > 9223372036854775807) := by rw [bs_size]; have := HS1.out.1; simp [ByteArray.size]; omega
    have hz1 : ¬ ((bs L1).size + (⟨#[46]⟩ : ByteArray).size > 9223372036854775807) := by rw [bs_size]; have := HS1.out.1; simp [ByteArray.size]; omega
    go_wp2_with fail
    refine (mitoa_any (100 + r) (by omega) w1 HK1.out).mono ?_
    rintro e w2 ⟨rfl, hb2⟩
    have HB2 := Lib.hid (HB1.out.trans (hb2.mono HB1.out.size))
    clear hb2
    rw [hL2'.out]
    have hz := HS2.out.2
    have hz3 : ¬ (9223372036854775807 < (bs (L1 ++ [46])).size + ((bs L2).size - 1)) := by rw [bs_size, bs_size]; have := HS1.out.1; have := HS2.out.1; simp; omega
    go_wp2_with fail
    go_ret
    refine ⟨?_, HB2.out⟩
    rw [HT.out, hL1'.out, hL2'.out, bs_tail, bs_cat, if_neg (by omega)]
    simp
end Go.Proofs.YtiapfpdkcdhhoaaDoor
