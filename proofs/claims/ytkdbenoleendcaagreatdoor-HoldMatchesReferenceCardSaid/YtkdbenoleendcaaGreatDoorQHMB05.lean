/- lexer.tokens, and its function at: the walks; Strings as lists of bytes. -/
import Derived.Test.YtkdbenoleendcaaGreatDoorQHMB01
import Derived.Test.YtkdbenoleendcaaGreatDoorQHMB04
import Derived.Laws.EntriesVeiled
import Derived.Deep.WholeRow

namespace Go.Proofs.YtkdbenoleendcaaGreatDoor
open Go.RowKit Go.IntWalk

/-- The class at a place. -/
def atS (s : ByteArray) (i : Nat) : Int := if h : i < s.size then cls (s[i]'h).toNat else 0

theorem atS_in {s : ByteArray} {i : Nat} (h : i < s.size) : atS s i = cls (s[i]'h).toNat := by unfold atS; rw [dif_pos h]
theorem atS_out {s : ByteArray} {i : Nat} (h : ¬ i < s.size) : atS s i = 0 := by unfold atS; rw [dif_neg h]
theorem atS_range (s : ByteArray) (i : Nat) : 0 ≤ atS s i ∧ atS s i ≤ 8 := by
  unfold atS
  split
  · exact cls_range _
  · omega

/-- What the tokens' functions read: the text, the classes, the function at. -/
structure LexBox (w : World) (T C A : Nat) (s : ByteArray) : Prop where
  text : w.cell? ⟨T, 0, none⟩ = some (.string s)
  cls : ∀ k, k < 256 → w.cell? ⟨C, k, none⟩ = some (.int .u8 (cls k))
  at' : w.cell? ⟨A, 0, none⟩ = some (.func (.func 69) #[] #[.pointer (some ⟨T, 0, none⟩), .pointer (some ⟨C, 0, none⟩)])

theorem LexBox.below {w w' : World} {B T C A : Nat} {s : ByteArray} (h : LexBox w T C A s) (hb : Below B w w') (h1 : T < B) (h2 : C < B) (h3 : A < B) : LexBox w' T C A s :=
  ⟨(hb.cell (p := ⟨T, 0, none⟩) h1).trans h.text, fun k hk => (hb.cell (p := ⟨C, k, none⟩) h2).trans (h.cls k hk), (hb.cell (p := ⟨A, 0, none⟩) h3).trans h.at'⟩

set_option maxRecDepth 10000 in
set_option maxHeartbeats 800000 in
theorem at_any (s : ByteArray) (i T C A : Nat) (w : World) (h : LexBox w T C A s) :
    Calls Tryz.prog 69 #[.int .i64 i, .pointer (some ⟨T, 0, none⟩), .pointer (some ⟨C, 0, none⟩)] w fun e w' => e = .returned (.int .u8 (atS s i)) ∧ w = w' := by
  have x0 := h.text
  by_cases hi : i < s.size
  · have HA := Lib.hid (atS_in hi)
    obtain ⟨c, hc⟩ : ∃ c : Nat, (s[i]'hi).toNat = c := ⟨_, rfl⟩
    have hc255 : c ≤ 255 := by rw [← hc]; have := (s[i]'hi).toNat_lt; omega
    have x1 := h.cls c (by omega)
    rw [hc] at HA
    obtain ⟨v, hv⟩ : ∃ v, cls c = v := ⟨_, rfl⟩
    rw [hv] at x1 HA
    clear hv h
    go_enter Tryz.func69, Tryz.ntmps69
    go_wp2_with fail
    go_ret
    exact ⟨by rw [HA.out]; rfl, rfl⟩
  · have HA := Lib.hid (atS_out hi)
    clear h
    go_enter Tryz.func69, Tryz.ntmps69
    go_wp2_with fail
    go_ret
    exact ⟨by rw [HA.out]; rfl, rfl⟩

/-- What tokens returns. -/
def ToksPost (s : ByteArray) (w : World) (e : Ending) (w' : World) : Prop :=
  ∃ T C A : Nat, e = .returned (.func (.func 70) #[] #[.pointer (some ⟨T, 0, none⟩), .pointer (some ⟨A, 0, none⟩)]) ∧ w.heap.size ≤ T ∧ w.heap.size ≤ C ∧ w.heap.size ≤ A ∧ T < w'.heap.size ∧ C < w'.heap.size ∧ A < w'.heap.size ∧ LexBox w' T C A s ∧ Below w.heap.size w w'

set_option maxRecDepth 100000 in
set_option maxHeartbeats 800000 in
theorem tokens_any (s : ByteArray) (w : World) : Calls Tryz.prog 56 #[.string s] w (ToksPost s w) := by
  go_enter Tryz.func56, Tryz.ntmps56
  go_upto_region 1 with fail
  have HB : Hid (Below w.heap.size w (w.alloc (.cells #[.string s] 9))) := (Below.refl _ _).alloc (Nat.le_refl _) _
  have HT : Hid ((w.alloc (.cells #[.string s] 9)).cell? ⟨w.heap.size, 0, none⟩ = some (.string s)) := by simp [Hid, World.cell?_alloc_new]
  have HSZ : Hid ((w.alloc (.cells #[.string s] 9)).heap.size = w.heap.size + 1) := by simp [Hid]
  generalize w.alloc (.cells #[.string s] 9) = w1 at *
  go_wp2_with fail
  refine (classes_any w1).mono ?_
  rintro e w2 ⟨arr, rfl, hsz, hone, hcl, hb⟩
  have HB2 := Lib.hid (HB.out.trans (hb.mono HB.out.size))
  have HT2 := Lib.hid (Below.cell_of hb HT.out)
  have hz2 : w.heap.size + 1 ≤ w2.heap.size := by have := hb.size; rw [HSZ.out] at this; exact this
  have HCL : Hid (∀ k, k < 256 → arr[k]? = some (.int .u8 (cls k))) := fun k hk => hcl k hk
  have HSA := Lib.hid hsz
  have HONE := Lib.hid hone
  clear hb hcl hsz hone HB HT HSZ
  have hzs : Tryz.zeroCells106.size = 256 := by rw [zero256]; simp
  have HOL : Hid ((w2.alloc (.cells Tryz.zeroCells106 106)).heap[w2.heap.size]? = some (.cells Tryz.zeroCells106 106 (0, 0))) := by
    show (w2.heap.push _)[w2.heap.size]? = _
    simp
  have HI2 : Hid ((Tryz.prog.info? 106).map (·.size) = some arr.size) := by
    show _ = _
    rw [HSA.out]
    exact (by kernel_rfl : (Tryz.prog.info? 106).map (·.size) = some 256)
  have HOS : Hid (Tryz.zeroCells106.size = arr.size) := by show _ = _; rw [hzs, HSA.out]
  have HW3 := Lib.hid (World.setRow_alloc_new w2 Tryz.zeroCells106 arr 106)
  clear hzs
  go_upto_region 2 with (refine wpList_store_row rfl 106 _ _ rfl w2.heap.size arr rfl rfl 106 Tryz.zeroCells106 HOL.out HI2.out HOS.out HONE.out ?_)
  rw [HW3.out]
  have hb3 : Below w2.heap.size w2 (w2.alloc (.cells arr 106)) := Joins.below_alloc1 _ _
  have HB3 := Lib.hid (HB2.out.trans (hb3.mono HB2.out.size))
  have HT3 := Lib.hid (Below.cell_of hb3 HT2.out)
  have HC3 : Hid (∀ k, k < 256 → (w2.alloc (.cells arr 106)).cell? ⟨w2.heap.size, k, none⟩ = some (.int .u8 (cls k))) := fun k hk => by
    rw [cell_of_row _ _ _ arr 106 (0, 0) (by show (w2.heap.push _)[w2.heap.size]? = _; simp)]
    exact HCL.out k hk
  have HSZ3 : Hid ((w2.alloc (.cells arr 106)).heap.size = w2.heap.size + 1) := by simp [Hid]
  obtain ⟨C, hC⟩ : ∃ C, w2.heap.size = C := ⟨_, rfl⟩
  have hCl : w.heap.size + 1 ≤ C := by omega
  simp only [hC] at HC3 HSZ3 ⊢
  generalize w2.alloc (.cells arr 106) = w3 at *
  clear hb3 HB2 HT2 HCL HSA HONE HOL HI2 HOS HW3 hC hz2
  go_upto_region 3 with fail
  have hb4 : Below w3.heap.size w3 (w3.alloc (.cells #[.func (.func 69) #[] #[.pointer (some ⟨w.heap.size, 0, none⟩), .pointer (some ⟨C, 0, none⟩)]] 108)) := Joins.below_alloc1 _ _
  have HB4 := Lib.hid (HB3.out.trans (hb4.mono HB3.out.size))
  have HL4 : Hid (LexBox (w3.alloc (.cells #[.func (.func 69) #[] #[.pointer (some ⟨w.heap.size, 0, none⟩), .pointer (some ⟨C, 0, none⟩)]] 108)) w.heap.size C w3.heap.size s) := ⟨Below.cell_of hb4 HT3.out, fun k hk => Below.cell_of hb4 (HC3.out k hk), by simp [go_sem]⟩
  have HS4 : Hid ((w3.alloc (.cells #[.func (.func 69) #[] #[.pointer (some ⟨w.heap.size, 0, none⟩), .pointer (some ⟨C, 0, none⟩)]] 108)).heap.size = w3.heap.size + 1) := by simp [Hid]
  generalize w3.alloc (.cells #[.func (.func 69) #[] #[.pointer (some ⟨w.heap.size, 0, none⟩), .pointer (some ⟨C, 0, none⟩)]] 108) = w4 at *
  clear hb4 HB3 HT3 HC3
  go_wp2_with fail
  go_ret
  have h3 := HSZ3.out
  have h4 := HS4.out
  exact ⟨w.heap.size, C, w3.heap.size, rfl, Nat.le_refl _, by omega, by omega, by omega, by omega, by omega, HL4.out, HB4.out⟩
end Go.Proofs.YtkdbenoleendcaaGreatDoor

namespace Go.Proofs.YtkdbenoleendcaaGreatDoor
open Go.RowKit

def bs (l : List UInt8) : ByteArray := ⟨l.toArray⟩

theorem bs_size (l : List UInt8) : (bs l).size = l.length := by show l.toArray.size = _; simp

theorem bs_inj {x y : List UInt8} : bs x = bs y ↔ x = y := by
  constructor
  · intro h
    have h2 : (bs x).data.toList = (bs y).data.toList := by rw [h]
    simpa [bs] using h2
  · intro h; rw [h]

theorem bs_list (x : List UInt8) : (bs x).data.toList = x := by show x.toArray.toList = x; simp

theorem bs_toList (x : List UInt8) : (bs x).toList = x := by rw [ByteArray.toList_eq]; exact bs_list x

theorem bs_beq (x y : List UInt8) : ((bs x).toList == (bs y).toList) = decide (x = y) := by
  rw [bs_toList, bs_toList]
  by_cases h : x = y
  · subst h; simp
  · simp [h]

theorem bs_of (s : ByteArray) : s = bs s.data.toList := by unfold bs; simp
end Go.Proofs.YtkdbenoleendcaaGreatDoor
