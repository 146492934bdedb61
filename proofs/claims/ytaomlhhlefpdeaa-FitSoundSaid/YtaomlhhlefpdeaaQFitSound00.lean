/- foyerlaw22.FitSound: foyerref22.Short and the law's walk (printed by wip/fogen.py); What an argument of type Proof gives the walks. -/
import Derived.Test.YtaomlhhlefpdeaaQFitBound17
import Derived.Test.YtaomlhhlefpdeaaQFitBound25
import Derived.Test.YtaomlhhlefpdeaaQFitBound50
import Derived.Test.YtaomlhhlefpdeaaQFitBound51
import Derived.Test.YtaomlhhlefpdeaaQFitBound53

namespace Go.Proofs.Ytaomlhhlefpdeaa
open Go.RowKit

def ShortPost (w : World) (e : Ending) (w' : World) : Prop := (∃ q, e = .returned (.bool q)) ∧ Below w.heap.size w w'

set_option maxRecDepth 10000 in
set_option maxHeartbeats 1600000 in
theorem short_any (pa : Option Addr) (l pc z : Nat) (T : List StepT) (w : World) (hl : l ≤ 9223372036854775807) (hT : Steps w pa l T) :
    Calls Try.prog 26 #[.agg #[.slice pa l pc], .int .i64 z] w (ShortPost w) := by
  have hb0 : Below w.heap.size w (w.alloc (.cells #[.slice pa l pc] 46)) := (Below.refl _ _).alloc (Nat.le_refl _) _
  have HBX := Lib.hid (Box.new (w := w) (vs := #[.slice pa l pc]) (T := 46) rfl)
  have HT := Lib.hid (hT.below hb0)
  clear hT
  go_enter Try.func26, Try.ntmps26
  go_upto_region 1 with fail
  generalize (w.alloc (.cells #[.slice pa l pc] 46)) = w1 at *
  have x0 := HBX.out.cell 0
  simp only [List.getElem?_toArray, List.getElem?_cons_zero] at x0
  obtain ⟨zb, hzb⟩ : ∃ b, decide (l ≤ z) = b := ⟨_, rfl⟩
  have hzb2 : decide ((l : Int) ≤ (z : Int)) = zb := by rw [← hzb]; simp
  go_wp2_with fail
  go_loop [5] (fun v5 => ∃ i : Nat, v5 = .int .i64 i ∧ i ≤ l) (fun v5 => l - (intOf v5).toNat)
  case atStart => exact ⟨0, rfl, Nat.zero_le _⟩
  case round =>
    obtain ⟨i, rfl, hi⟩ := hrel
    by_cases hlt : i < l
    · obtain ⟨b, o, ka, kc, rfl, _, _, c2, hI⟩ := HT.out.2 i hlt
      obtain ⟨kl, hkl⟩ : ∃ x, (stepAt T i).kids.length = x := ⟨_, rfl⟩
      rw [hkl] at c2
      clear hI hkl
      cases zb
      · go_wp2_with fail
        go_ret
        exact ⟨⟨_, rfl⟩, hb0⟩
      · by_cases hk : 60 < kl
        · have e2 : decide ((60 : Int) < (kl : Int)) = true := by simp; omega
          go_wp2_with fail
          go_ret
          exact ⟨⟨_, rfl⟩, hb0⟩
        · have e2 : decide ((60 : Int) < (kl : Int)) = false := by simp; omega
          go_wp2_with fail
          go_round
          case rel => exact ⟨i + 1, by go_num, by omega⟩
          case measure => simp [intOf]; omega
    · go_wp2_with fail
      go_ret
      exact ⟨⟨_, rfl⟩, hb0⟩

set_option maxRecDepth 20000 in
set_option maxHeartbeats 3200000 in
theorem fitSound_any (ra ga sa ya pa : Option Addr) (n c m d k sc k2 yc l pc : Nat) (single : Bool) (V0 V1 : Int) (R : List Int) (G S Y : List (Int × Int)) (T : List StepT) (w : World)
    (hk : k ≤ 9223372036854775807) (hk2 : k2 ≤ 9223372036854775807) (hl : l ≤ 9223372036854775807) (hR : Ints w ra n R) (hG : Pairs w ga m G) (hS : Pairs w sa k S) (hY : Pairs w ya k2 Y) (hT : Steps w pa l T) (hc : ra = none → c = 0) :
    Calls Try.prog 11 #[.agg #[.slice ra n c, .slice ga m d, .bool single], .agg #[.slice sa k sc, .int .i64 V0], .agg #[.slice ya k2 yc, .int .i64 V1], .agg #[.slice pa l pc]] w fun e w' => e = .returned (.bool true) ∧ Below w.heap.size w w' := by
  have hb0 : Below w.heap.size w ((((w.alloc (.cells #[.slice ra n c, .slice ga m d, .bool single] 25)).alloc (.cells #[.slice sa k sc, .int .i64 V0] 30)).alloc (.cells #[.slice ya k2 yc, .int .i64 V1] 30)).alloc (.cells #[.slice pa l pc] 46)) := ((((Below.refl _ _).alloc (Nat.le_refl _) _).alloc (by simp) _).alloc (by simp; omega) _).alloc (by simp; omega) _
  have HP0 : Hid (ProbAt ((((w.alloc (.cells #[.slice ra n c, .slice ga m d, .bool single] 25)).alloc (.cells #[.slice sa k sc, .int .i64 V0] 30)).alloc (.cells #[.slice ya k2 yc, .int .i64 V1] 30)).alloc (.cells #[.slice pa l pc] 46)) w.heap.size n m ra ga c d single R G) := ⟨(((Box.new rfl).alloc _).alloc _).alloc _, hR.below hb0, hG.below hb0, hc⟩
  have HX0 : Hid (PackAt ((((w.alloc (.cells #[.slice ra n c, .slice ga m d, .bool single] 25)).alloc (.cells #[.slice sa k sc, .int .i64 V0] 30)).alloc (.cells #[.slice ya k2 yc, .int .i64 V1] 30)).alloc (.cells #[.slice pa l pc] 46)) (w.heap.size + 1) k sa sc S V0) := ⟨((Box.new (by simp)).alloc _).alloc _, hS.below hb0⟩
  have HY0 : Hid (PackAt ((((w.alloc (.cells #[.slice ra n c, .slice ga m d, .bool single] 25)).alloc (.cells #[.slice sa k sc, .int .i64 V0] 30)).alloc (.cells #[.slice ya k2 yc, .int .i64 V1] 30)).alloc (.cells #[.slice pa l pc] 46)) (w.heap.size + 1 + 1) k2 ya yc Y V1) := ⟨(Box.new (by simp)).alloc _, hY.below hb0⟩
  have HF0 : Hid (ProofAt ((((w.alloc (.cells #[.slice ra n c, .slice ga m d, .bool single] 25)).alloc (.cells #[.slice sa k sc, .int .i64 V0] 30)).alloc (.cells #[.slice ya k2 yc, .int .i64 V1] 30)).alloc (.cells #[.slice pa l pc] 46)) (w.heap.size + 1 + 1 + 1) l pa pc T) := ⟨Box.new (by simp), hT.below hb0⟩
  have HBW0 := Lib.hid hb0
  clear hR hG hS hY hT hc hb0
  go_enter Try.func11, Try.ntmps11
  go_upto_region 1 with fail
  generalize ((((w.alloc (.cells #[.slice ra n c, .slice ga m d, .bool single] 25)).alloc (.cells #[.slice sa k sc, .int .i64 V0] 30)).alloc (.cells #[.slice ya k2 yc, .int .i64 V1] 30)).alloc (.cells #[.slice pa l pc] 46)) = w0 at *
  go_wp2_with fail
  refine (head22_any _).mono ?_
  rintro e w1 ⟨rfl, hb⟩
  have HP1 := Lib.hid (HP0.out.below hb)
  have HX1 := Lib.hid (HX0.out.below hb)
  have HY1 := Lib.hid (HY0.out.below hb)
  have HF1 := Lib.hid (HF0.out.below hb)
  have HBW1 := Lib.hid (HBW0.out.trans (hb.mono HBW0.out.size))
  clear hb HP0 HX0 HY0 HF0 HBW0
  have p0 := HP1.out.box.cell 0
  have p1 := HP1.out.box.cell 1
  have p2 := HP1.out.box.cell 2
  simp only [List.getElem?_toArray, List.getElem?_cons_zero, List.getElem?_cons_succ] at p0 p1 p2
  go_wp2_with fail
  refine (few_any ra ga n c m d single 40 w1).mono ?_
  rintro e w2 ⟨rfl, hb⟩
  have HP2 := Lib.hid (HP1.out.below hb)
  have HX2 := Lib.hid (HX1.out.below hb)
  have HY2 := Lib.hid (HY1.out.below hb)
  have HF2 := Lib.hid (HF1.out.below hb)
  have HBW2 := Lib.hid (HBW1.out.trans (hb.mono HBW1.out.size))
  clear hb HP1 HX1 HY1 HF1 HBW1
  clear p0 p1 p2
  by_cases hfew : n ≤ 40 ∧ m ≤ 40
  · rw [show decide (n ≤ 40 ∧ m ≤ 40) = true from decide_eq_true hfew]
    obtain ⟨hn, hm⟩ := hfew
    have f0 := HF2.out.box.cell 0
    simp only [List.getElem?_toArray, List.getElem?_cons_zero] at f0
    go_wp2_with fail
    refine (short_any pa l pc 400 T w2 hl HF2.out.steps).mono ?_
    rintro e w3 ⟨⟨q, rfl⟩, hb⟩
    have HP3 := Lib.hid (HP2.out.below hb)
    have HX3 := Lib.hid (HX2.out.below hb)
    have HY3 := Lib.hid (HY2.out.below hb)
    have HF3 := Lib.hid (HF2.out.below hb)
    have HBW3 := Lib.hid (HBW2.out.trans (hb.mono HBW2.out.size))
    clear hb HP2 HX2 HY2 HF2 HBW2
    clear f0
    cases q
    · go_wp2_with fail
      go_ret
      exact ⟨rfl, HBW3.out⟩
    · have p0 := HP3.out.box.cell 0
      have p1 := HP3.out.box.cell 1
      have p2 := HP3.out.box.cell 2
      have x0 := HX3.out.box.cell 0
      have x1 := HX3.out.box.cell 1
      have y0 := HY3.out.box.cell 0
      have f0 := HF3.out.box.cell 0
      simp only [List.getElem?_toArray, List.getElem?_cons_zero, List.getElem?_cons_succ] at p0 p1 p2 x0 x1 y0 f0
      by_cases h60 : 60 < k
      · have e1 : decide ((60 : Int) < (k : Int)) = true := by simp; omega
        go_wp2_with fail
        go_ret
        exact ⟨rfl, HBW3.out⟩
      · have e1 : decide ((60 : Int) < (k : Int)) = false := by simp; omega
        by_cases h602 : 60 < k2
        · have e2 : decide ((60 : Int) < (k2 : Int)) = true := by simp; omega
          go_wp2_with fail
          go_ret
          exact ⟨rfl, HBW3.out⟩
        · have e2 : decide ((60 : Int) < (k2 : Int)) = false := by simp; omega
          go_wp2_with fail
          refine (check_any ra ga sa pa n c m d k sc l pc single V0 R G S T w3 (by omega) (by omega) (by omega) HP3.out.runs HP3.out.groups HX3.out.spots HF3.out.steps HP3.out.nil).mono ?_
          rintro e w4 ⟨q, rfl, hb, hq⟩
          have HQ := Lib.hid hq
          have HP4 := Lib.hid (HP3.out.below hb)
          have HX4 := Lib.hid (HX3.out.below hb)
          have HY4 := Lib.hid (HY3.out.below hb)
          have HF4 := Lib.hid (HF3.out.below hb)
          have HBW4 := Lib.hid (HBW3.out.trans (hb.mono HBW3.out.size))
          clear hb HP3 HX3 HY3 HF3 HBW3
          clear hq e1 e2 p0 p1 p2 x0 x1 y0 f0
          cases q
          · go_wp2_with fail
            go_ret
            exact ⟨rfl, HBW4.out⟩
          · have HOK := Lib.hid (HQ.out.mp rfl)
            clear HQ
            have p0 := HP4.out.box.cell 0
            have p1 := HP4.out.box.cell 1
            have p2 := HP4.out.box.cell 2
            have x0 := HX4.out.box.cell 0
            have x1 := HX4.out.box.cell 1
            simp only [List.getElem?_toArray, List.getElem?_cons_zero, List.getElem?_cons_succ] at p0 p1 p2 x0 x1
            go_wp2_with fail
            refine (legal_any ra ga sa n c m d k sc single V0 R G S w4 (by omega) (by omega) (by omega) HP4.out.runs HP4.out.groups HX4.out.spots).mono ?_
            rintro e w5 ⟨q, rfl, hb, hq⟩
            obtain rfl : q = true := hq.mpr HOK.out.1
            have HP5 := Lib.hid (HP4.out.below hb)
            have HX5 := Lib.hid (HX4.out.below hb)
            have HY5 := Lib.hid (HY4.out.below hb)
            have HF5 := Lib.hid (HF4.out.below hb)
            have HBW5 := Lib.hid (HBW4.out.trans (hb.mono HBW4.out.size))
            clear hb HP4 HX4 HY4 HF4 HBW4
            clear hq p0 p1 p2 x0 x1
            have p0 := HP5.out.box.cell 0
            have p1 := HP5.out.box.cell 1
            have p2 := HP5.out.box.cell 2
            have y0 := HY5.out.box.cell 0
            have y1 := HY5.out.box.cell 1
            simp only [List.getElem?_toArray, List.getElem?_cons_zero, List.getElem?_cons_succ] at p0 p1 p2 y0 y1
            go_wp2_with fail
            refine (legal_any ra ga ya n c m d k2 yc single V1 R G Y w5 (by omega) (by omega) (by omega) HP5.out.runs HP5.out.groups HY5.out.spots).mono ?_
            rintro e w6 ⟨q, rfl, hb, hq⟩
            have HQ := Lib.hid hq
            have HP6 := Lib.hid (HP5.out.below hb)
            have HX6 := Lib.hid (HX5.out.below hb)
            have HY6 := Lib.hid (HY5.out.below hb)
            have HF6 := Lib.hid (HF5.out.below hb)
            have HBW6 := Lib.hid (HBW5.out.trans (hb.mono HBW5.out.size))
            clear hb HP5 HX5 HY5 HF5 HBW5
            clear hq p0 p1 p2 y0 y1
            cases q
            · go_wp2_with fail
              go_ret
              exact ⟨rfl, HBW6.out⟩
            · have hle : V1 ≤ V0 := check_sound (HQ.out.mp rfl) HOK.out.2.2.2
              have e3 : decide (V1 ≤ V0) = true := by simp; exact hle
              have x1 := HX6.out.box.cell 1
              have y1 := HY6.out.box.cell 1
              simp only [List.getElem?_toArray, List.getElem?_cons_zero, List.getElem?_cons_succ] at x1 y1
              go_wp2_with fail
              go_ret
              exact ⟨rfl, HBW6.out⟩
  · rw [show decide (n ≤ 40 ∧ m ≤ 40) = false from decide_eq_false hfew]
    go_wp2_with fail
    go_ret
    exact ⟨rfl, HBW2.out⟩
end Go.Proofs.Ytaomlhhlefpdeaa

namespace Go.Proofs.Ytaomlhhlefpdeaa
open Go.ChangeShapes Go.WideShapes Go.ChangeAt Go.RowKit Go.Deep Go.Joins

section
variable {H : Type} {enc : TypeId × Value → H} {w : World} {base : Nat} {held : Bool}

set_option maxRecDepth 100000 in
theorem steps_read {fuel : Nat} {v : Value} {x : DataW H × List MemPlace} (h : DataW.trod enc Try.prog w base (fun _ => true) held fuel 44 [v] = some x) :
    ∃ (pa : Option Addr) (l pc : Nat) (T : List StepT), v = .slice pa l pc ∧ l ≤ 9223372036854775807 ∧ Steps w pa l T := by
  rcases open_slice Try.underlying44 h with ⟨hcs, _⟩ | ⟨a, len, cap, m, n, D, Pl, hcs, hb, hl, hm, hmm, hx0, hx⟩
  · simp at hcs
    subst hcs
    exact ⟨none, 0, 0, [], rfl, by omega, rfl, fun k hk => absurd hk (by omega)⟩
  · simp at hcs
    subst hcs
    obtain ⟨b, o, s⟩ := a
    have hm' : m = cap := by simpa using hmm
    subst hm'
    have ce : Try.prog.cellsOf 51 = 3 := by kernel_rfl
    have each : ∀ i : Fin len, ∃ t : StepT, ∃ ka kc, s = none ∧ w.cell? ⟨b, o + i * 3, none⟩ = some (.int .i64 t.kind) ∧ w.cell? ⟨b, o + i * 3 + 1, none⟩ = some (.int .i64 t.group) ∧
        w.cell? ⟨b, o + i * 3 + 2, none⟩ = some (.slice ka t.kids.length kc) ∧ Ints w ka t.kids.length t.kids := by
      intro i
      obtain ⟨cs', h1, h2⟩ := hx i (by omega)
      rw [ce] at h1
      obtain ⟨_, hlen, hcell⟩ := World.cells?_some h1
      obtain ⟨xs, k, hk, hxy, _, hxl, hf⟩ := DataW.trod_struct Try.underlying51 h2
      match xs, hxl, cs', hlen with
      | [y0, y1, y2], _, [v0, v1, v2], _ =>
        have g0 := hf 0 _ rfl
        have g1 := hf 1 _ rfl
        have g2 := hf 2 _ rfl
        have c0 : Try.prog.cellsOf 3 = 1 := by kernel_rfl
        have c2 : Try.prog.cellsOf 22 = 1 := by kernel_rfl
        simp [c0] at g0
        simp [c0] at g1
        simp [c2] at g2
        have e0 := hcell 0 (by omega)
        have e1 := hcell 1 (by omega)
        have e2 := hcell 2 (by omega)
        have hs : s = none := by
          have hi := i.isLt
          obtain ⟨cs0, h01, _⟩ := hx 0 (by omega)
          rw [ce] at h01
          obtain ⟨_, hl0, hc0⟩ := World.cells?_some h01
          match cs0, hl0 with
          | [u0, u1, u2], _ =>
            have z := hc0 0 (by omega)
            rw [add_add] at z
            exact whole_of (v := u0) (by simpa using z)
        subst hs
        rw [add_add, add_whole] at e0 e1 e2
        obtain ⟨n0, q0, _⟩ := DataW.trod_int Try.underlying3 g0
        obtain ⟨n1, q1, _⟩ := DataW.trod_int Try.underlying3 g1
        obtain ⟨ka, kl, kc, ks, q2, _, _, hI⟩ := ints_read g2
        simp at q0 q1
        subst q0 q1 q2
        have hkl : ks.length = kl := hI.1
        subst hkl
        exact ⟨⟨n0, n1, ks⟩, ka, kc, rfl, by simpa using e0, by simpa [Nat.add_assoc] using e1, by simpa [Nat.add_assoc] using e2, hI⟩
    obtain ⟨f, hf⟩ := Classical.axiomOfChoice each
    unfold maxLen at hm
    refine ⟨some ⟨b, o, s⟩, len, m, (List.range len).map fun i => if hi : i < len then f ⟨i, hi⟩ else default, rfl, by omega, by simp, fun i hi => ?_⟩
    obtain ⟨ka, kc, hs, c0, c1, c2, hI⟩ := hf ⟨i, hi⟩
    have e : stepAt ((List.range len).map fun i => if hi : i < len then f ⟨i, hi⟩ else default) i = f ⟨i, hi⟩ := by simp [stepAt, List.getD, hi]
    subst hs
    rw [e]
    exact ⟨b, o, ka, kc, rfl, c0, c1, c2, hI⟩

set_option maxRecDepth 100000 in
/-- The argument of type Proof: its one field. -/
theorem proof_read {r : Reach} {b0 : Nat} {v : Value} {d : DataW H} {p : List MemPlace} (hv : Value.okWide Try.prog w r b0 46 v)
    (h : DataW.Trod enc Try.prog w base (fun _ => true) held 46 v d p) :
    ∃ (pa : Option Addr) (l pc : Nat) (T : List StepT), v = .agg #[.slice pa l pc] ∧ l ≤ 9223372036854775807 ∧ Steps w pa l T := by
  obtain ⟨cs, rfl, hsz⟩ := okWide_struct Try.underlying46 hv
  have hC : Try.prog.cellsOf 46 = 1 := by kernel_rfl
  rw [hC] at hsz
  obtain ⟨c0, rfl⟩ : ∃ c, cs = #[c] := by
    obtain ⟨l⟩ := cs
    match l, hsz with
    | [c], _ => exact ⟨c, rfl⟩
  obtain ⟨fuel, hf⟩ := h
  obtain ⟨xs, k, hk, hxy, _, hxl, hfl⟩ := DataW.trod_struct Try.underlying46 hf
  match xs, hxl with
  | [y0], _ =>
    have g0 := hfl 0 _ rfl
    have c2 : Try.prog.cellsOf 44 = 1 := by kernel_rfl
    simp [Value.cells, c2] at g0
    obtain ⟨pa, l, pc, T, rfl, hl, hT⟩ := steps_read g0
    exact ⟨pa, l, pc, T, rfl, hl, hT⟩
end
end Go.Proofs.Ytaomlhhlefpdeaa
