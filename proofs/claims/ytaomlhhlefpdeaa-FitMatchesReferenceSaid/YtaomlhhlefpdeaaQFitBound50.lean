/- foyerlaw22.head: the walk (printed by wip/headgen.py). -/
import Derived.Test.YtaomlhhlefpdeaaQFitBound40
import Derived.Test.YtaomlhhlefpdeaaQFitBound49

namespace Go.Proofs.Ytaomlhhlefpdeaa
open Go.RowKit

structure ProbAt (w : World) (b n m : Nat) (ra ga : Option Addr) (c d : Nat) (single : Bool) (R : List Int) (G : List (Int × Int)) : Prop where
  box : Box w b 25 #[.slice ra n c, .slice ga m d, .bool single]
  runs : Ints w ra n R
  groups : Pairs w ga m G
  nil : ra = none → c = 0

theorem ProbAt.below {w w' : World} {b n m c d : Nat} {ra ga : Option Addr} {single : Bool} {R : List Int} {G : List (Int × Int)} (h : ProbAt w b n m ra ga c d single R G) (hb : Below w.heap.size w w') : ProbAt w' b n m ra ga c d single R G :=
  ⟨h.box.below hb, h.runs.below hb, h.groups.below hb, h.nil⟩

structure PackAt (w : World) (b k : Nat) (sa : Option Addr) (sc : Nat) (S : List (Int × Int)) (V : Int) : Prop where
  box : Box w b 30 #[.slice sa k sc, .int .i64 V]
  spots : Pairs w sa k S

theorem PackAt.below {w w' : World} {b k sc : Nat} {sa : Option Addr} {S : List (Int × Int)} {V : Int} (h : PackAt w b k sa sc S V) (hb : Below w.heap.size w w') : PackAt w' b k sa sc S V := ⟨h.box.below hb, h.spots.below hb⟩

structure ProofAt (w : World) (b k : Nat) (pa : Option Addr) (pc : Nat) (T : List StepT) : Prop where
  box : Box w b 46 #[.slice pa k pc]
  steps : Steps w pa k T

theorem ProofAt.below {w w' : World} {b k pc : Nat} {pa : Option Addr} {T : List StepT} (h : ProofAt w b k pa pc T) (hb : Below w.heap.size w w') : ProofAt w' b k pa pc T := ⟨h.box.below hb, h.steps.below hb⟩

theorem steps1 {w : World} {b : Nat} {k g : Int} (h : Box w b 51 #[.int .i64 k, .int .i64 g, .slice none 0 0]) : Steps w (some ⟨b, 0, none⟩) 1 [⟨k, g, []⟩] :=
  ⟨rfl, fun n hn => by
    obtain rfl : n = 0 := by omega
    exact ⟨b, 0, none, 0, rfl, h.cell 0, h.cell 1, h.cell 2, rfl, fun k hk => absurd hk (Nat.not_lt_zero _)⟩⟩

theorem steps3 {w : World} {b kb : Nat} {a c d e f g : Int} {x y : Int} (h : Box w b 51 #[.int .i64 a, .int .i64 c, .slice (some ⟨kb, 0, none⟩) 2 2, .int .i64 d, .int .i64 e, .slice none 0 0, .int .i64 f, .int .i64 g, .slice none 0 0])
    (hk : Box w kb 3 #[.int .i64 x, .int .i64 y]) : Steps w (some ⟨b, 0, none⟩) 3 [⟨a, c, [x, y]⟩, ⟨d, e, []⟩, ⟨f, g, []⟩] :=
  ⟨rfl, fun n hn => by
    match n, hn with
    | 0, _ => exact ⟨b, 0, _, 2, rfl, h.cell 0, h.cell 1, h.cell 2, Box.ints [x, y] hk⟩
    | 1, _ => exact ⟨b, 0, none, 0, rfl, h.cell 3, h.cell 4, h.cell 5, rfl, fun k hk => absurd hk (Nat.not_lt_zero _)⟩
    | 2, _ => exact ⟨b, 0, none, 0, rfl, h.cell 6, h.cell 7, h.cell 8, rfl, fun k hk => absurd hk (Nat.not_lt_zero _)⟩⟩

theorem al (w : World) (x : Obj) : Below w.heap.size w (w.alloc x) := (Below.refl _ _).alloc (Nat.le_refl _) _

set_option maxRecDepth 20000 in
set_option maxHeartbeats 6400000 in
theorem head22_any (w : World) : Calls Try.prog 24 #[] w fun e w' => e = .returned (.bool true) ∧ Below w.heap.size w w' := by
  go_enter Try.func24, Try.ntmps24
  go_upto_region 2 with fail
  have HO : Hid (Box (w.alloc (.cells #[.int .i64 (-1), .int .i64 0] 39)) w.heap.size 39 #[.int .i64 (-1), .int .i64 0]) := Box.new rfl
  have HW : Hid (Below w.heap.size w (w.alloc (.cells #[.int .i64 (-1), .int .i64 0] 39))) := al _ _
  generalize (w.alloc (.cells #[.int .i64 (-1), .int .i64 0] 39)) = u1 at *
  have o0 := HO.out.cell 0
  have o1 := HO.out.cell 1
  simp only [List.getElem?_toArray, List.getElem?_cons_zero, List.getElem?_cons_succ] at o0 o1
  go_wp2_with fail
  refine (packing_any 9 0 0 1 0 (-1) 0 _).mono ?_
  rintro e u2 ⟨sX2, cX2, rfl, hb, hp⟩
  clear o0 o1
  have HOn := Lib.hid (HO.out.below hb)
  clear HO
  have HO := HOn
  clear HOn
  have HWn := Lib.hid (HW.out.trans (hb.mono HW.out.size))
  clear HW hb
  have HW := HWn
  clear HWn
  have HP := Lib.hid hp
  clear hp
  go_upto_region 3 with fail
  have hb : Below u2.heap.size u2 (u2.alloc (.cells #[.slice sX2 3 cX2, .int .i64 9] 30)) := al _ _
  have HX2 : Hid (PackAt (u2.alloc (.cells #[.slice sX2 3 cX2, .int .i64 9] 30)) u2.heap.size 3 sX2 cX2 [(0, 0), (1, 0), (-1, 0)] 9) := ⟨Box.new rfl, HP.out.below hb⟩
  clear HP
  generalize (u2.alloc (.cells #[.slice sX2 3 cX2, .int .i64 9] 30)) = u3 at *
  obtain ⟨bX2, hbX2⟩ : ∃ b, u2.heap.size = b := ⟨_, rfl⟩
  have HOn := Lib.hid (HO.out.below hb)
  clear HO
  have HO := HOn
  clear HOn
  have HWn := Lib.hid (HW.out.trans (hb.mono HW.out.size))
  clear HW hb
  have HW := HWn
  clear HWn
  simp only [hbX2] at HX2 ⊢
  clear hbX2
  have o0 := HO.out.cell 0
  have o1 := HO.out.cell 1
  simp only [List.getElem?_toArray, List.getElem?_cons_zero, List.getElem?_cons_succ] at o0 o1
  go_wp2_with fail
  refine (packing_any 8 1 0 (-1) 0 0 1 _).mono ?_
  rintro e u4 ⟨sX3, cX3, rfl, hb, hp⟩
  clear o0 o1
  have HOn := Lib.hid (HO.out.below hb)
  have HX2n := Lib.hid (HX2.out.below hb)
  clear HO HX2
  have HO := HOn
  have HX2 := HX2n
  clear HOn HX2n
  have HWn := Lib.hid (HW.out.trans (hb.mono HW.out.size))
  clear HW hb
  have HW := HWn
  clear HWn
  have HP := Lib.hid hp
  clear hp
  go_upto_region 4 with fail
  have hb : Below u4.heap.size u4 (u4.alloc (.cells #[.slice sX3 3 cX3, .int .i64 8] 30)) := al _ _
  have HX3 : Hid (PackAt (u4.alloc (.cells #[.slice sX3 3 cX3, .int .i64 8] 30)) u4.heap.size 3 sX3 cX3 [(1, 0), (-1, 0), (0, 1)] 8) := ⟨Box.new rfl, HP.out.below hb⟩
  clear HP
  generalize (u4.alloc (.cells #[.slice sX3 3 cX3, .int .i64 8] 30)) = u5 at *
  obtain ⟨bX3, hbX3⟩ : ∃ b, u4.heap.size = b := ⟨_, rfl⟩
  have HOn := Lib.hid (HO.out.below hb)
  have HX2n := Lib.hid (HX2.out.below hb)
  clear HO HX2
  have HO := HOn
  have HX2 := HX2n
  clear HOn HX2n
  have HWn := Lib.hid (HW.out.trans (hb.mono HW.out.size))
  clear HW hb
  have HW := HWn
  clear HWn
  simp only [hbX3] at HX3 ⊢
  clear hbX3
  have o0 := HO.out.cell 0
  have o1 := HO.out.cell 1
  simp only [List.getElem?_toArray, List.getElem?_cons_zero, List.getElem?_cons_succ] at o0 o1
  go_wp2_with fail
  refine (packing_any 8 1 0 (-1) 0 0 0 _).mono ?_
  rintro e u6 ⟨sX4, cX4, rfl, hb, hp⟩
  clear o0 o1
  have HOn := Lib.hid (HO.out.below hb)
  have HX2n := Lib.hid (HX2.out.below hb)
  have HX3n := Lib.hid (HX3.out.below hb)
  clear HO HX2 HX3
  have HO := HOn
  have HX2 := HX2n
  have HX3 := HX3n
  clear HOn HX2n HX3n
  have HWn := Lib.hid (HW.out.trans (hb.mono HW.out.size))
  clear HW hb
  have HW := HWn
  clear HWn
  have HP := Lib.hid hp
  clear hp
  go_upto_region 5 with fail
  have hb : Below u6.heap.size u6 (u6.alloc (.cells #[.slice sX4 3 cX4, .int .i64 8] 30)) := al _ _
  have HX4 : Hid (PackAt (u6.alloc (.cells #[.slice sX4 3 cX4, .int .i64 8] 30)) u6.heap.size 3 sX4 cX4 [(1, 0), (-1, 0), (0, 0)] 8) := ⟨Box.new rfl, HP.out.below hb⟩
  clear HP
  generalize (u6.alloc (.cells #[.slice sX4 3 cX4, .int .i64 8] 30)) = u7 at *
  obtain ⟨bX4, hbX4⟩ : ∃ b, u6.heap.size = b := ⟨_, rfl⟩
  have HOn := Lib.hid (HO.out.below hb)
  have HX2n := Lib.hid (HX2.out.below hb)
  have HX3n := Lib.hid (HX3.out.below hb)
  clear HO HX2 HX3
  have HO := HOn
  have HX2 := HX2n
  have HX3 := HX3n
  clear HOn HX2n HX3n
  have HWn := Lib.hid (HW.out.trans (hb.mono HW.out.size))
  clear HW hb
  have HW := HWn
  clear HWn
  simp only [hbX4] at HX4 ⊢
  clear hbX4
  go_wp2_with fail
  refine (example22_any false _).mono ?_
  rintro e u8 ⟨r5, g5, c5, d5, rfl, hb, h1, h2, h3⟩
  have HOn := Lib.hid (HO.out.below hb)
  have HX2n := Lib.hid (HX2.out.below hb)
  have HX3n := Lib.hid (HX3.out.below hb)
  have HX4n := Lib.hid (HX4.out.below hb)
  clear HO HX2 HX3 HX4
  have HO := HOn
  have HX2 := HX2n
  have HX3 := HX3n
  have HX4 := HX4n
  clear HOn HX2n HX3n HX4n
  have HWn := Lib.hid (HW.out.trans (hb.mono HW.out.size))
  clear HW hb
  have HW := HWn
  clear HWn
  have HQ5 : Hid (Ints u8 r5 2 [4, 3] ∧ Pairs u8 g5 3 exG ∧ (r5 = none → c5 = 0)) := ⟨h1, h2, h3⟩
  clear h1 h2 h3
  go_wp2_with fail
  refine (example22_any true _).mono ?_
  rintro e u9 ⟨r6, g6, c6, d6, rfl, hb, h1, h2, h3⟩
  have HQ5n : Hid (Ints u9 r5 2 [4, 3] ∧ Pairs u9 g5 3 exG ∧ (r5 = none → c5 = 0)) := ⟨HQ5.out.1.below hb, HQ5.out.2.1.below hb, HQ5.out.2.2⟩
  clear HQ5
  have HOn := Lib.hid (HO.out.below hb)
  have HX2n := Lib.hid (HX2.out.below hb)
  have HX3n := Lib.hid (HX3.out.below hb)
  have HX4n := Lib.hid (HX4.out.below hb)
  clear HO HX2 HX3 HX4
  have HO := HOn
  have HX2 := HX2n
  have HX3 := HX3n
  have HX4 := HX4n
  clear HOn HX2n HX3n HX4n
  have HWn := Lib.hid (HW.out.trans (hb.mono HW.out.size))
  clear HW hb
  have HW := HWn
  clear HWn
  have HQ6 : Hid (Ints u9 r6 2 [4, 3] ∧ Pairs u9 g6 3 exG ∧ (r6 = none → c6 = 0)) := ⟨h1, h2, h3⟩
  clear h1 h2 h3
  go_upto_region 6 with fail
  have hb : Below u9.heap.size u9 ((u9.alloc (.cells #[.slice r5 2 c5, .slice g5 3 d5, .bool false] 25)).alloc (.cells #[.slice r6 2 c6, .slice g6 3 d6, .bool true] 25)) := (al _ _).trans ((al _ _).mono (by simp))
  have HP5 : Hid (ProbAt ((u9.alloc (.cells #[.slice r5 2 c5, .slice g5 3 d5, .bool false] 25)).alloc (.cells #[.slice r6 2 c6, .slice g6 3 d6, .bool true] 25)) u9.heap.size 2 3 r5 g5 c5 d5 false [4, 3] exG) := ⟨(Box.new rfl).alloc _, HQ5n.out.1.below hb, HQ5n.out.2.1.below hb, HQ5n.out.2.2⟩
  have HP6 : Hid (ProbAt ((u9.alloc (.cells #[.slice r5 2 c5, .slice g5 3 d5, .bool false] 25)).alloc (.cells #[.slice r6 2 c6, .slice g6 3 d6, .bool true] 25)) (u9.heap.size + 1) 2 3 r6 g6 c6 d6 true [4, 3] exG) := ⟨Box.new (by simp), HQ6.out.1.below hb, HQ6.out.2.1.below hb, HQ6.out.2.2⟩
  clear HQ5n HQ6
  generalize ((u9.alloc (.cells #[.slice r5 2 c5, .slice g5 3 d5, .bool false] 25)).alloc (.cells #[.slice r6 2 c6, .slice g6 3 d6, .bool true] 25)) = u10 at *
  have HOn := Lib.hid (HO.out.below hb)
  have HX2n := Lib.hid (HX2.out.below hb)
  have HX3n := Lib.hid (HX3.out.below hb)
  have HX4n := Lib.hid (HX4.out.below hb)
  clear HO HX2 HX3 HX4
  have HO := HOn
  have HX2 := HX2n
  have HX3 := HX3n
  have HX4 := HX4n
  clear HOn HX2n HX3n HX4n
  have HWn := Lib.hid (HW.out.trans (hb.mono HW.out.size))
  clear HW hb
  have HW := HWn
  clear HWn
  obtain ⟨b6, hb6⟩ : ∃ x, u9.heap.size + 1 = x := ⟨_, rfl⟩
  simp only [hb6] at HP6 ⊢
  clear hb6
  obtain ⟨b5, hb5⟩ : ∃ x, u9.heap.size = x := ⟨_, rfl⟩
  simp only [hb5] at HP5 ⊢
  clear hb5
  have p0 := HP5.out.box.cell 0
  have p1 := HP5.out.box.cell 1
  have p2 := HP5.out.box.cell 2
  simp only [List.getElem?_toArray, List.getElem?_cons_zero, List.getElem?_cons_succ] at p0 p1 p2
  have x0 := HX2.out.box.cell 0
  have x1 := HX2.out.box.cell 1
  simp only [List.getElem?_toArray, List.getElem?_cons_zero, List.getElem?_cons_succ] at x0 x1
  go_wp2_with fail
  refine (legal_any r5 g5 sX2 2 c5 3 d5 3 cX2 false 9 [4, 3] exG [(0, 0), (1, 0), (-1, 0)] _ (by decide) (by decide) (by decide) HP5.out.runs HP5.out.groups HX2.out.spots).mono ?_
  rintro e u11 ⟨q, rfl, hb, hq⟩
  obtain rfl := legal_eq hq he1
  clear hq p0 p1 p2 x0 x1
  have HOn := Lib.hid (HO.out.below hb)
  have HX2n := Lib.hid (HX2.out.below hb)
  have HX3n := Lib.hid (HX3.out.below hb)
  have HX4n := Lib.hid (HX4.out.below hb)
  have HP5n := Lib.hid (HP5.out.below hb)
  have HP6n := Lib.hid (HP6.out.below hb)
  clear HO HX2 HX3 HX4 HP5 HP6
  have HO := HOn
  have HX2 := HX2n
  have HX3 := HX3n
  have HX4 := HX4n
  have HP5 := HP5n
  have HP6 := HP6n
  clear HOn HX2n HX3n HX4n HP5n HP6n
  have HWn := Lib.hid (HW.out.trans (hb.mono HW.out.size))
  clear HW hb
  have HW := HWn
  clear HWn
  have p0 := HP6.out.box.cell 0
  have p1 := HP6.out.box.cell 1
  have p2 := HP6.out.box.cell 2
  simp only [List.getElem?_toArray, List.getElem?_cons_zero, List.getElem?_cons_succ] at p0 p1 p2
  have x0 := HX2.out.box.cell 0
  have x1 := HX2.out.box.cell 1
  simp only [List.getElem?_toArray, List.getElem?_cons_zero, List.getElem?_cons_succ] at x0 x1
  go_wp2_with fail
  refine (legal_any r6 g6 sX2 2 c6 3 d6 3 cX2 true 9 [4, 3] exG [(0, 0), (1, 0), (-1, 0)] _ (by decide) (by decide) (by decide) HP6.out.runs HP6.out.groups HX2.out.spots).mono ?_
  rintro e u12 ⟨q, rfl, hb, hq⟩
  obtain rfl := legal_eq hq he2
  clear hq p0 p1 p2 x0 x1
  have HOn := Lib.hid (HO.out.below hb)
  have HX2n := Lib.hid (HX2.out.below hb)
  have HX3n := Lib.hid (HX3.out.below hb)
  have HX4n := Lib.hid (HX4.out.below hb)
  have HP5n := Lib.hid (HP5.out.below hb)
  have HP6n := Lib.hid (HP6.out.below hb)
  clear HO HX2 HX3 HX4 HP5 HP6
  have HO := HOn
  have HX2 := HX2n
  have HX3 := HX3n
  have HX4 := HX4n
  have HP5 := HP5n
  have HP6 := HP6n
  clear HOn HX2n HX3n HX4n HP5n HP6n
  have HWn := Lib.hid (HW.out.trans (hb.mono HW.out.size))
  clear HW hb
  have HW := HWn
  clear HWn
  have p0 := HP5.out.box.cell 0
  have p1 := HP5.out.box.cell 1
  have p2 := HP5.out.box.cell 2
  simp only [List.getElem?_toArray, List.getElem?_cons_zero, List.getElem?_cons_succ] at p0 p1 p2
  have x0 := HX3.out.box.cell 0
  have x1 := HX3.out.box.cell 1
  simp only [List.getElem?_toArray, List.getElem?_cons_zero, List.getElem?_cons_succ] at x0 x1
  go_wp2_with fail
  refine (legal_any r5 g5 sX3 2 c5 3 d5 3 cX3 false 8 [4, 3] exG [(1, 0), (-1, 0), (0, 1)] _ (by decide) (by decide) (by decide) HP5.out.runs HP5.out.groups HX3.out.spots).mono ?_
  rintro e u13 ⟨q, rfl, hb, hq⟩
  obtain rfl := legal_eq hq he3
  clear hq p0 p1 p2 x0 x1
  have HOn := Lib.hid (HO.out.below hb)
  have HX2n := Lib.hid (HX2.out.below hb)
  have HX3n := Lib.hid (HX3.out.below hb)
  have HX4n := Lib.hid (HX4.out.below hb)
  have HP5n := Lib.hid (HP5.out.below hb)
  have HP6n := Lib.hid (HP6.out.below hb)
  clear HO HX2 HX3 HX4 HP5 HP6
  have HO := HOn
  have HX2 := HX2n
  have HX3 := HX3n
  have HX4 := HX4n
  have HP5 := HP5n
  have HP6 := HP6n
  clear HOn HX2n HX3n HX4n HP5n HP6n
  have HWn := Lib.hid (HW.out.trans (hb.mono HW.out.size))
  clear HW hb
  have HW := HWn
  clear HWn
  have p0 := HP6.out.box.cell 0
  have p1 := HP6.out.box.cell 1
  have p2 := HP6.out.box.cell 2
  simp only [List.getElem?_toArray, List.getElem?_cons_zero, List.getElem?_cons_succ] at p0 p1 p2
  have x0 := HX3.out.box.cell 0
  have x1 := HX3.out.box.cell 1
  simp only [List.getElem?_toArray, List.getElem?_cons_zero, List.getElem?_cons_succ] at x0 x1
  go_wp2_with fail
  refine (legal_any r6 g6 sX3 2 c6 3 d6 3 cX3 true 8 [4, 3] exG [(1, 0), (-1, 0), (0, 1)] _ (by decide) (by decide) (by decide) HP6.out.runs HP6.out.groups HX3.out.spots).mono ?_
  rintro e u14 ⟨q, rfl, hb, hq⟩
  obtain rfl := legal_eq hq he4
  clear hq p0 p1 p2 x0 x1
  have HOn := Lib.hid (HO.out.below hb)
  have HX2n := Lib.hid (HX2.out.below hb)
  have HX3n := Lib.hid (HX3.out.below hb)
  have HX4n := Lib.hid (HX4.out.below hb)
  have HP5n := Lib.hid (HP5.out.below hb)
  have HP6n := Lib.hid (HP6.out.below hb)
  clear HO HX2 HX3 HX4 HP5 HP6
  have HO := HOn
  have HX2 := HX2n
  have HX3 := HX3n
  have HX4 := HX4n
  have HP5 := HP5n
  have HP6 := HP6n
  clear HOn HX2n HX3n HX4n HP5n HP6n
  have HWn := Lib.hid (HW.out.trans (hb.mono HW.out.size))
  clear HW hb
  have HW := HWn
  clear HWn
  have p0 := HP5.out.box.cell 0
  have p1 := HP5.out.box.cell 1
  have p2 := HP5.out.box.cell 2
  simp only [List.getElem?_toArray, List.getElem?_cons_zero, List.getElem?_cons_succ] at p0 p1 p2
  have x0 := HX4.out.box.cell 0
  have x1 := HX4.out.box.cell 1
  simp only [List.getElem?_toArray, List.getElem?_cons_zero, List.getElem?_cons_succ] at x0 x1
  go_wp2_with fail
  refine (legal_any r5 g5 sX4 2 c5 3 d5 3 cX4 false 8 [4, 3] exG [(1, 0), (-1, 0), (0, 0)] _ (by decide) (by decide) (by decide) HP5.out.runs HP5.out.groups HX4.out.spots).mono ?_
  rintro e u15 ⟨q, rfl, hb, hq⟩
  obtain rfl := legal_eq hq he5
  clear hq p0 p1 p2 x0 x1
  have HOn := Lib.hid (HO.out.below hb)
  have HX2n := Lib.hid (HX2.out.below hb)
  have HX3n := Lib.hid (HX3.out.below hb)
  have HX4n := Lib.hid (HX4.out.below hb)
  have HP5n := Lib.hid (HP5.out.below hb)
  have HP6n := Lib.hid (HP6.out.below hb)
  clear HO HX2 HX3 HX4 HP5 HP6
  have HO := HOn
  have HX2 := HX2n
  have HX3 := HX3n
  have HX4 := HX4n
  have HP5 := HP5n
  have HP6 := HP6n
  clear HOn HX2n HX3n HX4n HP5n HP6n
  have HWn := Lib.hid (HW.out.trans (hb.mono HW.out.size))
  clear HW hb
  have HW := HWn
  clear HWn
  have p0 := HP6.out.box.cell 0
  have p1 := HP6.out.box.cell 1
  have p2 := HP6.out.box.cell 2
  simp only [List.getElem?_toArray, List.getElem?_cons_zero, List.getElem?_cons_succ] at p0 p1 p2
  have x0 := HX4.out.box.cell 0
  have x1 := HX4.out.box.cell 1
  simp only [List.getElem?_toArray, List.getElem?_cons_zero, List.getElem?_cons_succ] at x0 x1
  go_wp2_with fail
  refine (legal_any r6 g6 sX4 2 c6 3 d6 3 cX4 true 8 [4, 3] exG [(1, 0), (-1, 0), (0, 0)] _ (by decide) (by decide) (by decide) HP6.out.runs HP6.out.groups HX4.out.spots).mono ?_
  rintro e u16 ⟨q, rfl, hb, hq⟩
  obtain rfl := legal_eq hq he6
  clear hq p0 p1 p2 x0 x1
  have HOn := Lib.hid (HO.out.below hb)
  have HX2n := Lib.hid (HX2.out.below hb)
  have HX3n := Lib.hid (HX3.out.below hb)
  have HX4n := Lib.hid (HX4.out.below hb)
  have HP5n := Lib.hid (HP5.out.below hb)
  have HP6n := Lib.hid (HP6.out.below hb)
  clear HO HX2 HX3 HX4 HP5 HP6
  have HO := HOn
  have HX2 := HX2n
  have HX3 := HX3n
  have HX4 := HX4n
  have HP5 := HP5n
  have HP6 := HP6n
  clear HOn HX2n HX3n HX4n HP5n HP6n
  have HWn := Lib.hid (HW.out.trans (hb.mono HW.out.size))
  clear HW hb
  have HW := HWn
  clear HWn
  have p0 := HP5.out.box.cell 0
  have p1 := HP5.out.box.cell 1
  have p2 := HP5.out.box.cell 2
  simp only [List.getElem?_toArray, List.getElem?_cons_zero, List.getElem?_cons_succ] at p0 p1 p2
  go_wp2_with fail
  refine (bound_any r5 g5 2 c5 3 d5 false [4, 3] exG _ (by decide) (by decide) HP5.out.runs HP5.out.groups).mono ?_
  rintro e u17 ⟨rfl, hb⟩
  rw [ex_bound]
  clear p0 p1 p2
  have HOn := Lib.hid (HO.out.below hb)
  have HX2n := Lib.hid (HX2.out.below hb)
  have HX3n := Lib.hid (HX3.out.below hb)
  have HX4n := Lib.hid (HX4.out.below hb)
  have HP5n := Lib.hid (HP5.out.below hb)
  have HP6n := Lib.hid (HP6.out.below hb)
  clear HO HX2 HX3 HX4 HP5 HP6
  have HO := HOn
  have HX2 := HX2n
  have HX3 := HX3n
  have HX4 := HX4n
  have HP5 := HP5n
  have HP6 := HP6n
  clear HOn HX2n HX3n HX4n HP5n HP6n
  have HWn := Lib.hid (HW.out.trans (hb.mono HW.out.size))
  clear HW hb
  have HW := HWn
  clear HWn
  have p0 := HP5.out.box.cell 0
  have p1 := HP5.out.box.cell 1
  have p2 := HP5.out.box.cell 2
  simp only [List.getElem?_toArray, List.getElem?_cons_zero, List.getElem?_cons_succ] at p0 p1 p2
  go_wp2_with fail
  refine (valid_any r5 g5 2 c5 3 d5 false true [4, 3] exG _ (by decide) (by decide) HP5.out.runs HP5.out.groups ex_valid).mono ?_
  rintro e u18 ⟨rfl, hb⟩
  clear p0 p1 p2
  have HOn := Lib.hid (HO.out.below hb)
  have HX2n := Lib.hid (HX2.out.below hb)
  have HX3n := Lib.hid (HX3.out.below hb)
  have HX4n := Lib.hid (HX4.out.below hb)
  have HP5n := Lib.hid (HP5.out.below hb)
  have HP6n := Lib.hid (HP6.out.below hb)
  clear HO HX2 HX3 HX4 HP5 HP6
  have HO := HOn
  have HX2 := HX2n
  have HX3 := HX3n
  have HX4 := HX4n
  have HP5 := HP5n
  have HP6 := HP6n
  clear HOn HX2n HX3n HX4n HP5n HP6n
  have HWn := Lib.hid (HW.out.trans (hb.mono HW.out.size))
  clear HW hb
  have HW := HWn
  clear HWn
  go_upto_region 7 with fail
  go_upto_region 8 with fail
  have hb : Below u18.heap.size u18 ((u18.alloc (.cells #[.int .i64 2, .int .i64 0, .slice none 0 0] 51)).alloc (.cells #[.slice (some ⟨u18.heap.size, 0, none⟩) 1 1] 46)) := (al _ _).trans ((al _ _).mono (by simp))
  have HF8 : Hid (ProofAt ((u18.alloc (.cells #[.int .i64 2, .int .i64 0, .slice none 0 0] 51)).alloc (.cells #[.slice (some ⟨u18.heap.size, 0, none⟩) 1 1] 46)) (u18.heap.size + 1) 1 (some ⟨u18.heap.size, 0, none⟩) 1 [⟨2, 0, []⟩]) := ⟨Box.new (by simp), steps1 ((Box.new rfl).alloc _)⟩
  generalize ((u18.alloc (.cells #[.int .i64 2, .int .i64 0, .slice none 0 0] 51)).alloc (.cells #[.slice (some ⟨u18.heap.size, 0, none⟩) 1 1] 46)) = u19 at *
  have HOn := Lib.hid (HO.out.below hb)
  have HX2n := Lib.hid (HX2.out.below hb)
  have HX3n := Lib.hid (HX3.out.below hb)
  have HX4n := Lib.hid (HX4.out.below hb)
  have HP5n := Lib.hid (HP5.out.below hb)
  have HP6n := Lib.hid (HP6.out.below hb)
  clear HO HX2 HX3 HX4 HP5 HP6
  have HO := HOn
  have HX2 := HX2n
  have HX3 := HX3n
  have HX4 := HX4n
  have HP5 := HP5n
  have HP6 := HP6n
  clear HOn HX2n HX3n HX4n HP5n HP6n
  have HWn := Lib.hid (HW.out.trans (hb.mono HW.out.size))
  clear HW hb
  have HW := HWn
  clear HWn
  obtain ⟨b8, hb8⟩ : ∃ x, u18.heap.size + 1 = x := ⟨_, rfl⟩
  simp only [hb8] at HF8 ⊢
  clear hb8
  obtain ⟨q8, hq8⟩ : ∃ x, u18.heap.size = x := ⟨_, rfl⟩
  simp only [hq8] at HF8 ⊢
  clear hq8
  go_upto_region 9 with fail
  have hb : Below u19.heap.size u19 (((u19.alloc (.cells #[.int .i64 2] 3)).alloc (.cells #[.int .i64 1, .int .i64 5] 37)).alloc (.cells #[.slice (some ⟨u19.heap.size, 0, none⟩) 1 1, .slice (some ⟨u19.heap.size + 1, 0, none⟩) 1 1, .bool true] 25)) := (al _ _).trans (((al _ _).trans ((al _ _).mono (by simp))).mono (by simp))
  have HP9 : Hid (ProbAt (((u19.alloc (.cells #[.int .i64 2] 3)).alloc (.cells #[.int .i64 1, .int .i64 5] 37)).alloc (.cells #[.slice (some ⟨u19.heap.size, 0, none⟩) 1 1, .slice (some ⟨u19.heap.size + 1, 0, none⟩) 1 1, .bool true] 25)) (u19.heap.size + 1 + 1) 1 1 (some ⟨u19.heap.size, 0, none⟩) (some ⟨u19.heap.size + 1, 0, none⟩) 1 1 true [2] [(1, 5)]) := ⟨Box.new (by simp), Box.ints [2] (((Box.new rfl).alloc _).alloc _), Box.pairs [(1, 5)] ((Box.new (by simp)).alloc _), fun h => by simp at h⟩
  generalize (((u19.alloc (.cells #[.int .i64 2] 3)).alloc (.cells #[.int .i64 1, .int .i64 5] 37)).alloc (.cells #[.slice (some ⟨u19.heap.size, 0, none⟩) 1 1, .slice (some ⟨u19.heap.size + 1, 0, none⟩) 1 1, .bool true] 25)) = u20 at *
  have HOn := Lib.hid (HO.out.below hb)
  have HX2n := Lib.hid (HX2.out.below hb)
  have HX3n := Lib.hid (HX3.out.below hb)
  have HX4n := Lib.hid (HX4.out.below hb)
  have HP5n := Lib.hid (HP5.out.below hb)
  have HP6n := Lib.hid (HP6.out.below hb)
  have HF8n := Lib.hid (HF8.out.below hb)
  clear HO HX2 HX3 HX4 HP5 HP6 HF8
  have HO := HOn
  have HX2 := HX2n
  have HX3 := HX3n
  have HX4 := HX4n
  have HP5 := HP5n
  have HP6 := HP6n
  have HF8 := HF8n
  clear HOn HX2n HX3n HX4n HP5n HP6n HF8n
  have HWn := Lib.hid (HW.out.trans (hb.mono HW.out.size))
  clear HW hb
  have HW := HWn
  clear HWn
  obtain ⟨b9, hb9⟩ : ∃ x, u19.heap.size + 1 + 1 = x := ⟨_, rfl⟩
  simp only [hb9] at HP9 ⊢
  clear hb9
  obtain ⟨g9, hg9⟩ : ∃ x, u19.heap.size + 1 = x := ⟨_, rfl⟩
  simp only [hg9] at HP9 ⊢
  clear hg9
  obtain ⟨r9, hr9⟩ : ∃ x, u19.heap.size = x := ⟨_, rfl⟩
  simp only [hr9] at HP9 ⊢
  clear hr9
  have o0 := HO.out.cell 0
  have o1 := HO.out.cell 1
  simp only [List.getElem?_toArray, List.getElem?_cons_zero, List.getElem?_cons_succ] at o0 o1
  go_upto_region 10 with fail
  have hb : Below u20.heap.size u20 ((u20.alloc (.cells #[.int .i64 (-1), .int .i64 0] 39)).alloc (.cells #[.slice (some ⟨u20.heap.size, 0, none⟩) 1 1, .int .i64 0] 30)) := (al _ _).trans ((al _ _).mono (by simp))
  have HX10 : Hid (PackAt ((u20.alloc (.cells #[.int .i64 (-1), .int .i64 0] 39)).alloc (.cells #[.slice (some ⟨u20.heap.size, 0, none⟩) 1 1, .int .i64 0] 30)) (u20.heap.size + 1) 1 (some ⟨u20.heap.size, 0, none⟩) 1 [(-1, 0)] 0) := ⟨Box.new (by simp), Box.pairs [(-1, 0)] ((Box.new rfl).alloc _)⟩
  clear o0 o1
  generalize ((u20.alloc (.cells #[.int .i64 (-1), .int .i64 0] 39)).alloc (.cells #[.slice (some ⟨u20.heap.size, 0, none⟩) 1 1, .int .i64 0] 30)) = u21 at *
  have HOn := Lib.hid (HO.out.below hb)
  have HX2n := Lib.hid (HX2.out.below hb)
  have HX3n := Lib.hid (HX3.out.below hb)
  have HX4n := Lib.hid (HX4.out.below hb)
  have HP5n := Lib.hid (HP5.out.below hb)
  have HP6n := Lib.hid (HP6.out.below hb)
  have HF8n := Lib.hid (HF8.out.below hb)
  have HP9n := Lib.hid (HP9.out.below hb)
  clear HO HX2 HX3 HX4 HP5 HP6 HF8 HP9
  have HO := HOn
  have HX2 := HX2n
  have HX3 := HX3n
  have HX4 := HX4n
  have HP5 := HP5n
  have HP6 := HP6n
  have HF8 := HF8n
  have HP9 := HP9n
  clear HOn HX2n HX3n HX4n HP5n HP6n HF8n HP9n
  have HWn := Lib.hid (HW.out.trans (hb.mono HW.out.size))
  clear HW hb
  have HW := HWn
  clear HWn
  obtain ⟨b10, hb10⟩ : ∃ x, u20.heap.size + 1 = x := ⟨_, rfl⟩
  simp only [hb10] at HX10 ⊢
  clear hb10
  obtain ⟨s10, hs10⟩ : ∃ x, u20.heap.size = x := ⟨_, rfl⟩
  simp only [hs10] at HX10 ⊢
  clear hs10
  go_upto_region 11 with fail
  have hb : Below u21.heap.size u21 (((u21.alloc (.cells #[.int .i64 1, .int .i64 2] 3)).alloc (.cells #[.int .i64 1, .int .i64 0, .slice (some ⟨u21.heap.size, 0, none⟩) 2 2, .int .i64 3, .int .i64 0, .slice none 0 0, .int .i64 2, .int .i64 0, .slice none 0 0] 51)).alloc (.cells #[.slice (some ⟨u21.heap.size + 1, 0, none⟩) 3 3] 46)) := (al _ _).trans (((al _ _).trans ((al _ _).mono (by simp))).mono (by simp))
  have HF11 : Hid (ProofAt (((u21.alloc (.cells #[.int .i64 1, .int .i64 2] 3)).alloc (.cells #[.int .i64 1, .int .i64 0, .slice (some ⟨u21.heap.size, 0, none⟩) 2 2, .int .i64 3, .int .i64 0, .slice none 0 0, .int .i64 2, .int .i64 0, .slice none 0 0] 51)).alloc (.cells #[.slice (some ⟨u21.heap.size + 1, 0, none⟩) 3 3] 46)) (u21.heap.size + 1 + 1) 3 (some ⟨u21.heap.size + 1, 0, none⟩) 3 [⟨1, 0, [1, 2]⟩, ⟨3, 0, []⟩, ⟨2, 0, []⟩]) := ⟨Box.new (by simp), steps3 ((Box.new (by simp)).alloc _) (((Box.new rfl).alloc _).alloc _)⟩
  generalize (((u21.alloc (.cells #[.int .i64 1, .int .i64 2] 3)).alloc (.cells #[.int .i64 1, .int .i64 0, .slice (some ⟨u21.heap.size, 0, none⟩) 2 2, .int .i64 3, .int .i64 0, .slice none 0 0, .int .i64 2, .int .i64 0, .slice none 0 0] 51)).alloc (.cells #[.slice (some ⟨u21.heap.size + 1, 0, none⟩) 3 3] 46)) = u22 at *
  have HOn := Lib.hid (HO.out.below hb)
  have HX2n := Lib.hid (HX2.out.below hb)
  have HX3n := Lib.hid (HX3.out.below hb)
  have HX4n := Lib.hid (HX4.out.below hb)
  have HP5n := Lib.hid (HP5.out.below hb)
  have HP6n := Lib.hid (HP6.out.below hb)
  have HF8n := Lib.hid (HF8.out.below hb)
  have HP9n := Lib.hid (HP9.out.below hb)
  have HX10n := Lib.hid (HX10.out.below hb)
  clear HO HX2 HX3 HX4 HP5 HP6 HF8 HP9 HX10
  have HO := HOn
  have HX2 := HX2n
  have HX3 := HX3n
  have HX4 := HX4n
  have HP5 := HP5n
  have HP6 := HP6n
  have HF8 := HF8n
  have HP9 := HP9n
  have HX10 := HX10n
  clear HOn HX2n HX3n HX4n HP5n HP6n HF8n HP9n HX10n
  have HWn := Lib.hid (HW.out.trans (hb.mono HW.out.size))
  clear HW hb
  have HW := HWn
  clear HWn
  obtain ⟨b11, hb11⟩ : ∃ x, u21.heap.size + 1 + 1 = x := ⟨_, rfl⟩
  simp only [hb11] at HF11 ⊢
  clear hb11
  obtain ⟨q11, hq11⟩ : ∃ x, u21.heap.size + 1 = x := ⟨_, rfl⟩
  simp only [hq11] at HF11 ⊢
  clear hq11
  obtain ⟨TP, hTP⟩ : ∃ T, proveL true [4, 3] exG = T := ⟨_, rfl⟩
  have HC4 : Hid ((legalB true [4, 3] exG [(1, 0), (-1, 0), (0, 0)] 8 && (decide (0 < TP.length ∧ TP.length ≤ 100000) && checkS true [4, 3] exG 8 TP)) = true) := by rw [← hTP]; exact hc4
  have HVE : Hid (ValuesOk exG ∧ ∀ r, r < 2 → 0 ≤ ix [4, 3] r ∧ ix [4, 3] r ≤ 4000) := ⟨(validS_parts ex_valid).2.2, fun r hr => by have := (runsOk_sum [4, 3] 4000 (by omega) (validS_parts ex_valid).1).2.2 r hr; omega⟩
  have HPV : Hid (∀ W, ProbAt W b6 2 3 r6 g6 c6 d6 true [4, 3] exG → Calls Try.prog 33 #[.agg #[.slice r6 2 c6, .slice g6 3 d6, .bool true]] W (ProofPost TP W)) := fun W h => by rw [← hTP]; exact Prove_any r6 g6 2 c6 3 d6 true [4, 3] exG W (by decide) (by decide) h.runs h.groups HVE.out.1 HVE.out.2
  clear hTP
  refine wp_region_held_drew (S := fun w' => Below u22.heap.size u22 w') (by kernel_rfl) ((Below.refl _ _).drew) (fun hHeld => ?_)
  refine take_at (i := 0) (v := ?_) 82 rfl rfl (by kernel_rfl) (by kernel_rfl) (by kernel_rfl) (fun _ _ _ h => h) (Or.inl ⟨by rfl, ?_⟩) hHeld ?_
  rotate_left
  · intro w hSw; go_simp <;> with_reducible rfl
  try simp only [Act.put, List.setIfInBounds_toArray, List.set_cons_zero, List.set_cons_succ]
  refine take_at (i := 1) (v := ?_) 83 rfl rfl (by kernel_rfl) (by kernel_rfl) (by kernel_rfl) (fun _ _ _ h => h) (Or.inl ⟨by rfl, ?_⟩) hHeld ?_
  rotate_left
  · intro w hSw; go_simp <;> with_reducible rfl
  try simp only [Act.put, List.setIfInBounds_toArray, List.set_cons_zero, List.set_cons_succ]
  refine take_at (i := 2) (v := ?_) 84 rfl rfl (by kernel_rfl) (by kernel_rfl) (by kernel_rfl) (fun _ _ _ h => h) (Or.inl ⟨by rfl, ?_⟩) hHeld ?_
  rotate_left
  · intro w hSw
    have q0 := (HP5.out.below hSw).box.cell 0
    have q1 := (HP5.out.below hSw).box.cell 1
    have q2 := (HP5.out.below hSw).box.cell 2
    simp only [List.getElem?_toArray, List.getElem?_cons_zero, List.getElem?_cons_succ] at q0 q1 q2
    go_simp <;> with_reducible rfl
  try simp only [Act.put, List.setIfInBounds_toArray, List.set_cons_zero, List.set_cons_succ]
  refine take_at (i := 3) (v := ?_) 85 rfl rfl (by kernel_rfl) (by kernel_rfl) (by kernel_rfl) (fun _ _ _ h => h) (Or.inl ⟨by rfl, ?_⟩) hHeld ?_
  rotate_left
  · intro w hSw
    have q0 := (HX2.out.below hSw).box.cell 0
    have q1 := (HX2.out.below hSw).box.cell 1
    simp only [List.getElem?_toArray, List.getElem?_cons_zero, List.getElem?_cons_succ] at q0 q1
    go_simp <;> with_reducible rfl
  try simp only [Act.put, List.setIfInBounds_toArray, List.set_cons_zero, List.set_cons_succ]
  refine take_at (i := 4) (v := ?_) 86 rfl rfl (by kernel_rfl) (by kernel_rfl) (by kernel_rfl) (fun _ _ _ h => h) (Or.inl ⟨by rfl, ?_⟩) hHeld ?_
  rotate_left
  · intro w hSw
    have q0 := (HF8.out.below hSw).box.cell 0
    simp only [List.getElem?_toArray, List.getElem?_cons_zero] at q0
    go_simp <;> with_reducible rfl
  try simp only [Act.put, List.setIfInBounds_toArray, List.set_cons_zero, List.set_cons_succ]
  refine wpAnyH_ready (rs := [5]) (by kernel_rfl) (by simp) ?_
  refine AllReadyH.cons rfl (fun K' hK => ?_) AllReadyH.nil
  go_simp
  refine (check_any r5 g5 sX2 (some ⟨q8, 0, none⟩) 2 c5 3 d5 3 cX2 1 1 false 9 [4, 3] exG [(0, 0), (1, 0), (-1, 0)] [⟨2, 0, []⟩] _ (by decide) (by decide) (by decide) (HP5.out.below hHeld).runs (HP5.out.below hHeld).groups (HX2.out.below hHeld).spots (HF8.out.below hHeld).steps (HP5.out.below hHeld).nil).mono ?_
  rintro e u23 ⟨q, rfl, hb, hq⟩
  obtain rfl := check_eq hq hc1
  clear hq
  go_simp
  refine hK.out _ _ (hHeld.trans (hb.mono hHeld.size)) (fun hHeld2 => ?_)
  clear hK K' hb hHeld
  have hHeld := hHeld2
  clear hHeld2
  refine take_at (i := 6) (v := ?_) 88 rfl rfl (by kernel_rfl) (by kernel_rfl) (by kernel_rfl) (fun _ _ _ h => h) (Or.inl ⟨by rfl, ?_⟩) hHeld ?_
  rotate_left
  · intro w hSw; go_simp <;> with_reducible rfl
  try simp only [Act.put, List.setIfInBounds_toArray, List.set_cons_zero, List.set_cons_succ]
  refine take_at (i := 7) (v := ?_) 89 rfl rfl (by kernel_rfl) (by kernel_rfl) (by kernel_rfl) (fun _ _ _ h => h) (Or.inl ⟨by rfl, ?_⟩) hHeld ?_
  rotate_left
  · intro w hSw; go_simp <;> with_reducible rfl
  try simp only [Act.put, List.setIfInBounds_toArray, List.set_cons_zero, List.set_cons_succ]
  refine take_at (i := 8) (v := ?_) 90 rfl rfl (by kernel_rfl) (by kernel_rfl) (by kernel_rfl) (fun _ _ _ h => h) (Or.inl ⟨by rfl, ?_⟩) hHeld ?_
  rotate_left
  · intro w hSw; go_simp <;> with_reducible rfl
  try simp only [Act.put, List.setIfInBounds_toArray, List.set_cons_zero, List.set_cons_succ]
  refine take_at (i := 9) (v := ?_) 91 rfl rfl (by kernel_rfl) (by kernel_rfl) (by kernel_rfl) (fun _ _ _ h => h) (Or.inl ⟨by rfl, ?_⟩) hHeld ?_
  rotate_left
  · intro w hSw
    have q0 := (HP9.out.below hSw).box.cell 0
    have q1 := (HP9.out.below hSw).box.cell 1
    have q2 := (HP9.out.below hSw).box.cell 2
    simp only [List.getElem?_toArray, List.getElem?_cons_zero, List.getElem?_cons_succ] at q0 q1 q2
    go_simp <;> with_reducible rfl
  try simp only [Act.put, List.setIfInBounds_toArray, List.set_cons_zero, List.set_cons_succ]
  refine take_at (i := 10) (v := ?_) 92 rfl rfl (by kernel_rfl) (by kernel_rfl) (by kernel_rfl) (fun _ _ _ h => h) (Or.inl ⟨by rfl, ?_⟩) hHeld ?_
  rotate_left
  · intro w hSw
    have q0 := (HX10.out.below hSw).box.cell 0
    have q1 := (HX10.out.below hSw).box.cell 1
    simp only [List.getElem?_toArray, List.getElem?_cons_zero, List.getElem?_cons_succ] at q0 q1
    go_simp <;> with_reducible rfl
  try simp only [Act.put, List.setIfInBounds_toArray, List.set_cons_zero, List.set_cons_succ]
  refine take_at (i := 11) (v := ?_) 93 rfl rfl (by kernel_rfl) (by kernel_rfl) (by kernel_rfl) (fun _ _ _ h => h) (Or.inl ⟨by rfl, ?_⟩) hHeld ?_
  rotate_left
  · intro w hSw
    have q0 := (HF11.out.below hSw).box.cell 0
    simp only [List.getElem?_toArray, List.getElem?_cons_zero] at q0
    go_simp <;> with_reducible rfl
  try simp only [Act.put, List.setIfInBounds_toArray, List.set_cons_zero, List.set_cons_succ]
  refine wpAnyH_ready (rs := [12]) (by kernel_rfl) (by simp) ?_
  refine AllReadyH.cons rfl (fun K' hK => ?_) AllReadyH.nil
  go_simp
  refine (check_any (some ⟨r9, 0, none⟩) (some ⟨g9, 0, none⟩) (some ⟨s10, 0, none⟩) (some ⟨q11, 0, none⟩) 1 1 1 1 1 1 3 3 true 0 [2] [(1, 5)] [(-1, 0)] [⟨1, 0, [1, 2]⟩, ⟨3, 0, []⟩, ⟨2, 0, []⟩] _ (by decide) (by decide) (by decide) (HP9.out.below hHeld).runs (HP9.out.below hHeld).groups (HX10.out.below hHeld).spots (HF11.out.below hHeld).steps (HP9.out.below hHeld).nil).mono ?_
  rintro e u24 ⟨q, rfl, hb, hq⟩
  obtain rfl := check_eq hq hc2
  clear hq
  go_simp
  refine hK.out _ _ (hHeld.trans (hb.mono hHeld.size)) (fun hHeld2 => ?_)
  clear hK K' hb hHeld
  have hHeld := hHeld2
  clear hHeld2
  refine take_at (i := 13) (v := ?_) 95 rfl rfl (by kernel_rfl) (by kernel_rfl) (by kernel_rfl) (fun _ _ _ h => h) (Or.inl ⟨by rfl, ?_⟩) hHeld ?_
  rotate_left
  · intro w hSw; go_simp <;> with_reducible rfl
  try simp only [Act.put, List.setIfInBounds_toArray, List.set_cons_zero, List.set_cons_succ]
  refine take_at (i := 14) (v := ?_) 96 rfl rfl (by kernel_rfl) (by kernel_rfl) (by kernel_rfl) (fun _ _ _ h => h) (Or.inl ⟨by rfl, ?_⟩) hHeld ?_
  rotate_left
  · intro w hSw; go_simp <;> with_reducible rfl
  try simp only [Act.put, List.setIfInBounds_toArray, List.set_cons_zero, List.set_cons_succ]
  refine take_at (i := 15) (v := ?_) 97 rfl rfl (by kernel_rfl) (by kernel_rfl) (by kernel_rfl) (fun _ _ _ h => h) (Or.inl ⟨by rfl, ?_⟩) hHeld ?_
  rotate_left
  · intro w hSw
    have q0 := (HP9.out.below hSw).box.cell 0
    have q1 := (HP9.out.below hSw).box.cell 1
    have q2 := (HP9.out.below hSw).box.cell 2
    simp only [List.getElem?_toArray, List.getElem?_cons_zero, List.getElem?_cons_succ] at q0 q1 q2
    go_simp <;> with_reducible rfl
  try simp only [Act.put, List.setIfInBounds_toArray, List.set_cons_zero, List.set_cons_succ]
  refine take_at (i := 16) (v := ?_) 98 rfl rfl (by kernel_rfl) (by kernel_rfl) (by kernel_rfl) (fun _ _ _ h => h) (Or.inl ⟨by rfl, ?_⟩) hHeld ?_
  rotate_left
  · intro w hSw
    have q0 := (HX10.out.below hSw).box.cell 0
    have q1 := (HX10.out.below hSw).box.cell 1
    simp only [List.getElem?_toArray, List.getElem?_cons_zero, List.getElem?_cons_succ] at q0 q1
    go_simp <;> with_reducible rfl
  try simp only [Act.put, List.setIfInBounds_toArray, List.set_cons_zero, List.set_cons_succ]
  refine take_at (i := 17) (v := ?_) 99 rfl rfl (by kernel_rfl) (by kernel_rfl) (by kernel_rfl) (fun _ _ _ h => h) (Or.inl ⟨by rfl, ?_⟩) hHeld ?_
  rotate_left
  · intro w hSw
    have q0 := (HF8.out.below hSw).box.cell 0
    simp only [List.getElem?_toArray, List.getElem?_cons_zero] at q0
    go_simp <;> with_reducible rfl
  try simp only [Act.put, List.setIfInBounds_toArray, List.set_cons_zero, List.set_cons_succ]
  refine wpAnyH_ready (rs := [18]) (by kernel_rfl) (by simp) ?_
  refine AllReadyH.cons rfl (fun K' hK => ?_) AllReadyH.nil
  go_simp
  refine (check_any (some ⟨r9, 0, none⟩) (some ⟨g9, 0, none⟩) (some ⟨s10, 0, none⟩) (some ⟨q8, 0, none⟩) 1 1 1 1 1 1 1 1 true 0 [2] [(1, 5)] [(-1, 0)] [⟨2, 0, []⟩] _ (by decide) (by decide) (by decide) (HP9.out.below hHeld).runs (HP9.out.below hHeld).groups (HX10.out.below hHeld).spots (HF8.out.below hHeld).steps (HP9.out.below hHeld).nil).mono ?_
  rintro e u25 ⟨q, rfl, hb, hq⟩
  obtain rfl := check_eq hq hc3
  clear hq
  go_simp
  refine hK.out _ _ (hHeld.trans (hb.mono hHeld.size)) (fun hHeld2 => ?_)
  clear hK K' hb hHeld
  have hHeld := hHeld2
  clear hHeld2
  refine take_at (i := 19) (v := ?_) 101 rfl rfl (by kernel_rfl) (by kernel_rfl) (by kernel_rfl) (fun _ _ _ h => h) (Or.inl ⟨by rfl, ?_⟩) hHeld ?_
  rotate_left
  · intro w hSw; go_simp <;> with_reducible rfl
  try simp only [Act.put, List.setIfInBounds_toArray, List.set_cons_zero, List.set_cons_succ]
  refine take_at (i := 20) (v := ?_) 102 rfl rfl (by kernel_rfl) (by kernel_rfl) (by kernel_rfl) (fun _ _ _ h => h) (Or.inl ⟨by rfl, ?_⟩) hHeld ?_
  rotate_left
  · intro w hSw; go_simp <;> with_reducible rfl
  try simp only [Act.put, List.setIfInBounds_toArray, List.set_cons_zero, List.set_cons_succ]
  refine take_at (i := 21) (v := ?_) 103 rfl rfl (by kernel_rfl) (by kernel_rfl) (by kernel_rfl) (fun _ _ _ h => h) (Or.inl ⟨by rfl, ?_⟩) hHeld ?_
  rotate_left
  · intro w hSw; go_simp <;> with_reducible rfl
  try simp only [Act.put, List.setIfInBounds_toArray, List.set_cons_zero, List.set_cons_succ]
  refine take_at (i := 22) (v := ?_) 104 rfl rfl (by kernel_rfl) (by kernel_rfl) (by kernel_rfl) (fun _ _ _ h => h) (Or.inl ⟨by rfl, ?_⟩) hHeld ?_
  rotate_left
  · intro w hSw
    have q0 := (HP5.out.below hSw).box.cell 0
    have q1 := (HP5.out.below hSw).box.cell 1
    have q2 := (HP5.out.below hSw).box.cell 2
    simp only [List.getElem?_toArray, List.getElem?_cons_zero, List.getElem?_cons_succ] at q0 q1 q2
    go_simp <;> with_reducible rfl
  try simp only [Act.put, List.setIfInBounds_toArray, List.set_cons_zero, List.set_cons_succ]
  refine wpAnyH_ready (rs := [23]) (by kernel_rfl) (by simp) ?_
  refine AllReadyH.cons rfl (fun K' hK => ?_) AllReadyH.nil
  go_simp
  refine (Best_any r5 g5 2 c5 3 d5 false [4, 3] exG _ (by decide) (by decide) (HP5.out.below hHeld).runs (HP5.out.below hHeld).groups HVE.out.1 HVE.out.2).mono ?_
  rintro e u26 ⟨rfl, hb⟩
  rw [hb9]
  go_simp
  refine hK.out _ _ (hHeld.trans (hb.mono hHeld.size)) (fun hHeld2 => ?_)
  clear hK K' hb hHeld
  have hHeld := hHeld2
  clear hHeld2
  refine take_at (i := 24) (v := ?_) 106 rfl rfl (by kernel_rfl) (by kernel_rfl) (by kernel_rfl) (fun _ _ _ h => h) (Or.inl ⟨by rfl, ?_⟩) hHeld ?_
  rotate_left
  · intro w hSw; go_simp <;> with_reducible rfl
  try simp only [Act.put, List.setIfInBounds_toArray, List.set_cons_zero, List.set_cons_succ]
  refine take_at (i := 25) (v := ?_) 107 rfl rfl (by kernel_rfl) (by kernel_rfl) (by kernel_rfl) (fun _ _ _ h => h) (Or.inl ⟨by rfl, ?_⟩) hHeld ?_
  rotate_left
  · intro w hSw; go_simp <;> with_reducible rfl
  try simp only [Act.put, List.setIfInBounds_toArray, List.set_cons_zero, List.set_cons_succ]
  refine take_at (i := 26) (v := ?_) 108 rfl rfl (by kernel_rfl) (by kernel_rfl) (by kernel_rfl) (fun _ _ _ h => h) (Or.inl ⟨by rfl, ?_⟩) hHeld ?_
  rotate_left
  · intro w hSw; go_simp <;> with_reducible rfl
  try simp only [Act.put, List.setIfInBounds_toArray, List.set_cons_zero, List.set_cons_succ]
  refine take_at (i := 27) (v := ?_) 109 rfl rfl (by kernel_rfl) (by kernel_rfl) (by kernel_rfl) (fun _ _ _ h => h) (Or.inl ⟨by rfl, ?_⟩) hHeld ?_
  rotate_left
  · intro w hSw
    have q0 := (HP6.out.below hSw).box.cell 0
    have q1 := (HP6.out.below hSw).box.cell 1
    have q2 := (HP6.out.below hSw).box.cell 2
    simp only [List.getElem?_toArray, List.getElem?_cons_zero, List.getElem?_cons_succ] at q0 q1 q2
    go_simp <;> with_reducible rfl
  try simp only [Act.put, List.setIfInBounds_toArray, List.set_cons_zero, List.set_cons_succ]
  refine wpAnyH_ready (rs := [28]) (by kernel_rfl) (by simp) ?_
  refine AllReadyH.cons rfl (fun K' hK => ?_) AllReadyH.nil
  go_simp
  refine (Best_any r6 g6 2 c6 3 d6 true [4, 3] exG _ (by decide) (by decide) (HP6.out.below hHeld).runs (HP6.out.below hHeld).groups HVE.out.1 HVE.out.2).mono ?_
  rintro e u27 ⟨rfl, hb⟩
  rw [hb8]
  go_simp
  refine hK.out _ _ (hHeld.trans (hb.mono hHeld.size)) (fun hHeld2 => ?_)
  clear hK K' hb hHeld
  have hHeld := hHeld2
  clear hHeld2
  refine take_at (i := 29) (v := ?_) 111 rfl rfl (by kernel_rfl) (by kernel_rfl) (by kernel_rfl) (fun _ _ _ h => h) (Or.inl ⟨by rfl, ?_⟩) hHeld ?_
  rotate_left
  · intro w hSw; go_simp <;> with_reducible rfl
  try simp only [Act.put, List.setIfInBounds_toArray, List.set_cons_zero, List.set_cons_succ]
  refine take_at (i := 30) (v := ?_) 112 rfl rfl (by kernel_rfl) (by kernel_rfl) (by kernel_rfl) (fun _ _ _ h => h) (Or.inl ⟨by rfl, ?_⟩) hHeld ?_
  rotate_left
  · intro w hSw; go_simp <;> with_reducible rfl
  try simp only [Act.put, List.setIfInBounds_toArray, List.set_cons_zero, List.set_cons_succ]
  refine take_at (i := 31) (v := ?_) 113 rfl rfl (by kernel_rfl) (by kernel_rfl) (by kernel_rfl) (fun _ _ _ h => h) (Or.inl ⟨by rfl, ?_⟩) hHeld ?_
  rotate_left
  · intro w hSw; go_simp <;> with_reducible rfl
  try simp only [Act.put, List.setIfInBounds_toArray, List.set_cons_zero, List.set_cons_succ]
  refine take_at (i := 32) (v := ?_) 114 rfl rfl (by kernel_rfl) (by kernel_rfl) (by kernel_rfl) (fun _ _ _ h => h) (Or.inl ⟨by rfl, ?_⟩) hHeld ?_
  rotate_left
  · intro w hSw
    have q0 := (HP6.out.below hSw).box.cell 0
    have q1 := (HP6.out.below hSw).box.cell 1
    have q2 := (HP6.out.below hSw).box.cell 2
    simp only [List.getElem?_toArray, List.getElem?_cons_zero, List.getElem?_cons_succ] at q0 q1 q2
    go_simp <;> with_reducible rfl
  try simp only [Act.put, List.setIfInBounds_toArray, List.set_cons_zero, List.set_cons_succ]
  refine take_at (i := 33) (v := ?_) 115 rfl rfl (by kernel_rfl) (by kernel_rfl) (by kernel_rfl) (fun _ _ _ h => h) (Or.inl ⟨by rfl, ?_⟩) hHeld ?_
  rotate_left
  · intro w hSw
    have q0 := (HX4.out.below hSw).box.cell 0
    have q1 := (HX4.out.below hSw).box.cell 1
    simp only [List.getElem?_toArray, List.getElem?_cons_zero, List.getElem?_cons_succ] at q0 q1
    go_simp <;> with_reducible rfl
  try simp only [Act.put, List.setIfInBounds_toArray, List.set_cons_zero, List.set_cons_succ]
  refine take_at (i := 34) (v := ?_) 116 rfl rfl (by kernel_rfl) (by kernel_rfl) (by kernel_rfl) (fun _ _ _ h => h) (Or.inl ⟨by rfl, ?_⟩) hHeld ?_
  rotate_left
  · intro w hSw
    have q0 := (HP6.out.below hSw).box.cell 0
    have q1 := (HP6.out.below hSw).box.cell 1
    have q2 := (HP6.out.below hSw).box.cell 2
    simp only [List.getElem?_toArray, List.getElem?_cons_zero, List.getElem?_cons_succ] at q0 q1 q2
    go_simp <;> with_reducible rfl
  try simp only [Act.put, List.setIfInBounds_toArray, List.set_cons_zero, List.set_cons_succ]
  refine wpAnyH_ready (rs := [35]) (by kernel_rfl) (by simp) ?_
  refine AllReadyH.cons rfl (fun K' hK => ?_) AllReadyH.nil
  go_simp
  refine (HPV.out _ (HP6.out.below hHeld)).mono ?_
  rintro e u28 ⟨pp, pq, rfl, hb, hst⟩
  have HST := Lib.hid hst
  clear hst
  go_simp
  refine hK.out _ _ (hHeld.trans (hb.mono hHeld.size)) (fun hHeld2 => ?_)
  clear hK K' hb hHeld
  have hHeld := hHeld2
  clear hHeld2
  refine wpAnyH_ready (rs := [36]) (by kernel_rfl) (by simp) ?_
  refine AllReadyH.cons rfl (fun K' hK => ?_) AllReadyH.nil
  go_simp
  refine (check_any r6 g6 sX4 pp 2 c6 3 d6 3 cX4 TP.length pq true 8 [4, 3] exG [(1, 0), (-1, 0), (0, 0)] TP _ (by decide) (by decide) (by decide) (HP6.out.below hHeld).runs (HP6.out.below hHeld).groups (HX4.out.below hHeld).spots HST.out (HP6.out.below hHeld).nil).mono ?_
  rintro e u29 ⟨q, rfl, hb, hq⟩
  obtain rfl := check_eq hq HC4.out
  clear hq
  go_simp
  refine hK.out _ _ (hHeld.trans (hb.mono hHeld.size)) (fun hHeld2 => ?_)
  clear hK K' hb hHeld
  have hHeld := hHeld2
  clear hHeld2
  refine take_at (i := 37) (v := ?_) 119 rfl rfl (by kernel_rfl) (by kernel_rfl) (by kernel_rfl) (fun _ _ _ h => h) (Or.inl ⟨by rfl, ?_⟩) hHeld ?_
  rotate_left
  · intro w hSw; go_simp <;> with_reducible rfl
  try simp only [Act.put, List.setIfInBounds_toArray, List.set_cons_zero, List.set_cons_succ]
  refine take_at (i := 38) (v := ?_) 0 rfl rfl (by kernel_rfl) (by kernel_rfl) (by kernel_rfl) (fun _ _ _ h => h) (Or.inl ⟨by rfl, ?_⟩) hHeld ?_
  rotate_left
  · intro w hSw; go_simp <;> with_reducible rfl
  try simp only [Act.put, List.setIfInBounds_toArray, List.set_cons_zero]
  refine wpAnyH_done (by kernel_rfl) ?_ _
  go_wp2_with fail
  go_ret
  exact ⟨rfl, HW.out.trans (hHeld.mono HW.out.size)⟩
end Go.Proofs.Ytaomlhhlefpdeaa
