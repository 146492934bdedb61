/- foyerlaw24.alone: the walk. -/
import Derived.Test.YtaomlhhlefpdeaaSA
import Derived.Test.YtaomlhhlefpdeaaX2
import Derived.Test.YtaomlhhlefpdeaaS
namespace Go.Proofs.Ytaomlhhlefpdeaa
open Go.RowKit

set_option maxRecDepth 10000 in
set_option maxHeartbeats 1600000 in
theorem alone_any (ra ga : Option Addr) (n c m d : Nat) (single : Bool) (R : List Int) (s v lim : Int) (w : World)
    (hn : n ≤ 4000) (hR : Ints w ra n R) (hs : 1 ≤ s ∧ s ≤ 12) (hv : 0 ≤ v ∧ v ≤ 1000000) (hl : 0 ≤ lim) (ha : Alone single R s → s * v ≤ lim) :
    Calls Try.prog 23 #[.agg #[.slice ra n c, .slice ga m d, .bool single], .agg #[.int .i64 s, .int .i64 v]] w fun e w' => ∃ a, e = .returned (.int .i64 a) ∧ a ≤ lim ∧ Below w.heap.size w w' := by
  have h0 : 0 ≤ s * v := Int.mul_nonneg (by omega) (by omega)
  have h1 : s * v ≤ 12 * v := Int.mul_le_mul_of_nonneg_right hs.2 hv.1
  have HR := Lib.hid hR; have HA := Lib.hid ha
  have HBX : Hid (Box ((((w.alloc (.cells #[.slice ra n c, .slice ga m d, .bool single] 25)).alloc (.cells #[.int .i64 s, .int .i64 v] 37)).alloc (.cells #[.int .i64 s, .int .i64 v] 37)).alloc (.cells #[.slice ra n c, .slice (some ⟨w.heap.size + 1 + 1, 0, none⟩) 1 1, .bool single] 25)) w.heap.size 25 #[.slice ra n c, .slice ga m d, .bool single] ∧
      Box ((((w.alloc (.cells #[.slice ra n c, .slice ga m d, .bool single] 25)).alloc (.cells #[.int .i64 s, .int .i64 v] 37)).alloc (.cells #[.int .i64 s, .int .i64 v] 37)).alloc (.cells #[.slice ra n c, .slice (some ⟨w.heap.size + 1 + 1, 0, none⟩) 1 1, .bool single] 25)) (w.heap.size + 1) 37 #[.int .i64 s, .int .i64 v] ∧
      Box ((((w.alloc (.cells #[.slice ra n c, .slice ga m d, .bool single] 25)).alloc (.cells #[.int .i64 s, .int .i64 v] 37)).alloc (.cells #[.int .i64 s, .int .i64 v] 37)).alloc (.cells #[.slice ra n c, .slice (some ⟨w.heap.size + 1 + 1, 0, none⟩) 1 1, .bool single] 25)) (w.heap.size + 1 + 1) 37 #[.int .i64 s, .int .i64 v] ∧
      Box ((((w.alloc (.cells #[.slice ra n c, .slice ga m d, .bool single] 25)).alloc (.cells #[.int .i64 s, .int .i64 v] 37)).alloc (.cells #[.int .i64 s, .int .i64 v] 37)).alloc (.cells #[.slice ra n c, .slice (some ⟨w.heap.size + 1 + 1, 0, none⟩) 1 1, .bool single] 25)) (w.heap.size + 1 + 1 + 1) 25 #[.slice ra n c, .slice (some ⟨w.heap.size + 1 + 1, 0, none⟩) 1 1, .bool single]) :=
    ⟨(((Box.new rfl).alloc _).alloc _).alloc _, ((Box.new (by simp)).alloc _).alloc _, (Box.new (by simp)).alloc _, Box.new (by simp)⟩
  have hb0 : Below w.heap.size w ((((w.alloc (.cells #[.slice ra n c, .slice ga m d, .bool single] 25)).alloc (.cells #[.int .i64 s, .int .i64 v] 37)).alloc (.cells #[.int .i64 s, .int .i64 v] 37)).alloc (.cells #[.slice ra n c, .slice (some ⟨w.heap.size + 1 + 1, 0, none⟩) 1 1, .bool single] 25)) :=
    ((((Below.refl _ _).alloc (Nat.le_refl _) _).alloc (by simp) _).alloc (by simp; omega) _).alloc (by simp; omega) _
  clear hR ha
  go_enter Try.func23, Try.ntmps23
  go_upto_region 2 with fail
  generalize ((((w.alloc (.cells #[.slice ra n c, .slice ga m d, .bool single] 25)).alloc (.cells #[.int .i64 s, .int .i64 v] 37)).alloc (.cells #[.int .i64 s, .int .i64 v] 37)).alloc (.cells #[.slice ra n c, .slice (some ⟨w.heap.size + 1 + 1, 0, none⟩) 1 1, .bool single] 25)) = w4 at *
  generalize hb3' : w.heap.size + 1 + 1 + 1 = b3 at *
  generalize hb2' : w.heap.size + 1 + 1 = b2 at *
  generalize hb1' : w.heap.size + 1 = b1 at *
  have HLT : Hid (w.heap.size < b1 ∧ w.heap.size < b2 ∧ w.heap.size < b3) := ⟨by omega, by omega, by omega⟩
  clear hb1' hb2' hb3'
  go_wp2_with fail
  go_loopw [6, 7] (fun v6 _ wr => ∃ r : Nat, v6 = .int .i64 r ∧ r ≤ n ∧ Hid (Below w4.heap.size w4 wr)) (fun v6 _ _ => n - (intOf v6).toNat)
  case atStart => exact ⟨0, rfl, Nat.zero_le _, Below.refl _ _⟩
  case round =>
    obtain ⟨r, rfl, hr, HB⟩ := hrel
    have hbw := hb0.trans (HB.out.mono hb0.size)
    have HX := Lib.hid ((⟨HBX.out.1.below HB.out, HBX.out.2.1.below HB.out, HBX.out.2.2.1.below HB.out, HBX.out.2.2.2.below HB.out⟩ : _ ∧ _ ∧ _ ∧ _))
    have x0 := HX.out.1.cell 0
    have g0 := HX.out.2.1.cell 0
    have g1 := HX.out.2.1.cell 1
    simp only [List.getElem?_toArray, List.getElem?_cons_zero, List.getElem?_cons_succ] at x0 g0 g1
    by_cases hlt : r < n
    · have hsz : b3 < wr.heap.size := lt_of_block HX.out.2.2.2
      have hsz1 : b1 < wr.heap.size := lt_of_block HX.out.2.1
      have ga0 : ∀ o, (wr.alloc o).cell? ⟨b1, 0, none⟩ = some (.int .i64 s) := fun o => (HX.out.2.1.alloc o).cell 0
      have ga1 : ∀ o, (wr.alloc o).cell? ⟨b1, 1, none⟩ = some (.int .i64 v) := fun o => (HX.out.2.1.alloc o).cell 1
      have HX5 : Hid ((Box ((wr.alloc (.cells #[.int .i64 r, .int .i64 0] 39)).alloc (.cells #[.slice (some ⟨wr.heap.size, 0, none⟩) 1 1, .int .i64 (s * v)] 30)) (b2) 37 #[.int .i64 s, .int .i64 v] ∧
          Box ((wr.alloc (.cells #[.int .i64 r, .int .i64 0] 39)).alloc (.cells #[.slice (some ⟨wr.heap.size, 0, none⟩) 1 1, .int .i64 (s * v)] 30)) (b3) 25 #[.slice ra n c, .slice (some ⟨b2, 0, none⟩) 1 1, .bool single]) ∧
          Box ((wr.alloc (.cells #[.int .i64 r, .int .i64 0] 39)).alloc (.cells #[.slice (some ⟨wr.heap.size, 0, none⟩) 1 1, .int .i64 (s * v)] 30)) wr.heap.size 39 #[.int .i64 r, .int .i64 0] ∧
          Box ((wr.alloc (.cells #[.int .i64 r, .int .i64 0] 39)).alloc (.cells #[.slice (some ⟨wr.heap.size, 0, none⟩) 1 1, .int .i64 (s * v)] 30)) (wr.heap.size + 1) 30 #[.slice (some ⟨wr.heap.size, 0, none⟩) 1 1, .int .i64 (s * v)]) :=
        ⟨⟨(HX.out.2.2.1.alloc _).alloc _, (HX.out.2.2.2.alloc _).alloc _⟩, (Box.new rfl).alloc _, Box.new (by simp)⟩
      have hb5 : Below wr.heap.size wr ((wr.alloc (.cells #[.int .i64 r, .int .i64 0] 39)).alloc (.cells #[.slice (some ⟨wr.heap.size, 0, none⟩) 1 1, .int .i64 (s * v)] 30)) := ((Below.refl _ _).alloc (Nat.le_refl _) _).alloc (by simp) _
      have HB5 := Lib.hid (HB.out.trans (hb5.mono HB.out.size))
      have hbw5 := hbw.trans (hb5.mono hbw.size)
      clear HX HB hb5
      go_upto_region 6 with fail
      generalize ((wr.alloc (.cells #[.int .i64 r, .int .i64 0] 39)).alloc (.cells #[.slice (some ⟨wr.heap.size, 0, none⟩) 1 1, .int .i64 (s * v)] 30)) = w5 at *
      generalize hbq : wr.heap.size + 1 = bq at *
      generalize wr.heap.size = bs at *
      clear x0 g0 g1 ga0 ga1
      have p0 := HX5.out.1.2.cell 0
      have p1 := HX5.out.1.2.cell 1
      have p2 := HX5.out.1.2.cell 2
      have q0 := HX5.out.2.2.cell 0
      have q1 := HX5.out.2.2.cell 1
      simp only [List.getElem?_toArray, List.getElem?_cons_zero, List.getElem?_cons_succ] at p0 p1 p2 q0 q1
      clear hbq
      go_wp2_with fail
      refine (legal_any ra (some ⟨b2, 0, none⟩) (some ⟨bs, 0, none⟩) n c 1 1 1 1 single (s * v) R [(s, v)] [((r : Int), 0)] w5 hn (by omega) (by omega) (HR.out.below hbw5) (Box.pairs [(s, v)] HX5.out.1.1) (Box.pairs [((r : Int), 0)] HX5.out.2.1)).mono ?_
      rintro e w6 ⟨q, rfl, hb6, hq⟩
      have hbw6 := hbw5.trans (hb6.mono hbw5.size)
      cases q
      · have HB6 := Lib.hid (HB5.out.trans (hb6.mono HB5.out.size))
        clear p0 p1 p2 q0 q1 hq HX5 HB5 hb6 hbw5
        go_wp2_with fail
        go_roundw
        case rel => exact ⟨r + 1, by go_num, by omega, HB6⟩
        case measure => simp [intOf]; omega
      · have hle : s * v ≤ lim := HA.out (legal_alone (hq.mp rfl) hs.1 (by rw [HR.out.1]; exact hlt))
        have q1 := (HX5.out.2.2.below hb6).cell 1
        simp only [List.getElem?_toArray, List.getElem?_cons_zero, List.getElem?_cons_succ] at q1
        clear p0 p1 p2 q0 hq HX5 HB5 hb6 hbw5
        go_wp2_with fail
        go_ret
        exact ⟨s * v, rfl, hle, hbw6⟩
    · clear g0 g1 HX
      go_wp2_with fail
      go_ret
      exact ⟨0, rfl, hl, hbw⟩
end Go.Proofs.Ytaomlhhlefpdeaa
