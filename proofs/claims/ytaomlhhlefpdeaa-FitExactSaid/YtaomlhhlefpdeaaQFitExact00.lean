/- foyerlaw22.FitSound: foyerref22.Short and the law's walk (printed by wip/fogen.py); FitExact, plain: bestS is the greatest value of a permitted packing, and the steps of Prove are right exactly for it; FitExact, plain: the steps of Prove are right where no permitted packing brings more. -/
import Derived.Test.YtaomlhhlefpdeaaQFitBound24
import Derived.Test.YtaomlhhlefpdeaaQFitBound25
import Derived.Test.YtaomlhhlefpdeaaQFitBound28
import Derived.Test.YtaomlhhlefpdeaaQFitBound32
import Derived.Test.YtaomlhhlefpdeaaQFitBound34
import Derived.Test.YtaomlhhlefpdeaaQFitBound50
import Derived.Test.YtaomlhhlefpdeaaQFitBound51

namespace Go.Proofs.Ytaomlhhlefpdeaa
open Go.RowKit

def ShortPost (w : World) (e : Ending) (w' : World) : Prop := (∃ q, e = .returned (.bool q)) ∧ Below w.heap.size w w'

set_option maxRecDepth 10000 in
set_option maxHeartbeats 1600000 in
theorem short_any (pa : Option Addr) (l pc z : Nat) (T : List StepT) (w : World) (hl : l ≤ 9223372036854775807) (hT : Steps w pa l T) :
    Calls Try.prog 26 #[.agg #[.slice pa l pc], .int .i64 z] w (ShortPost w) := by
  have hb0 : Below w.heap.size w (w.alloc (.cells #[.slice pa l pc] 46)) := (Below.refl _ _).alloc (Nat.le_refl _) _
  have HBX := Lib.hid (Box.new (w := w) (vs := #[.slice pa l pc]) (T := 46) rfl)
  have HT := Lib.hid (hT.below hb0)
  clear hT
  go_enter Try.func26, Try.ntmps26
  go_upto_region 1 with fail
  generalize (w.alloc (.cells #[.slice pa l pc] 46)) = w1 at *
  have x0 := HBX.out.cell 0
  simp only [List.getElem?_toArray, List.getElem?_cons_zero] at x0
  obtain ⟨zb, hzb⟩ : ∃ b, decide (l ≤ z) = b := ⟨_, rfl⟩
  have hzb2 : decide ((l : Int) ≤ (z : Int)) = zb := by rw [← hzb]; simp
  go_wp2_with fail
  go_loop [5] (fun v5 => ∃ i : Nat, v5 = .int .i64 i ∧ i ≤ l) (fun v5 => l - (intOf v5).toNat)
  case atStart => exact ⟨0, rfl, Nat.zero_le _⟩
  case round =>
    obtain ⟨i, rfl, hi⟩ := hrel
    by_cases hlt : i < l
    · obtain ⟨b, o, ka, kc, rfl, _, _, c2, hI⟩ := HT.out.2 i hlt
      obtain ⟨kl, hkl⟩ : ∃ x, (stepAt T i).kids.length = x := ⟨_, rfl⟩
      rw [hkl] at c2
      clear hI hkl
      cases zb
      · go_wp2_with fail
        go_ret
        exact ⟨⟨_, rfl⟩, hb0⟩
      · by_cases hk : 60 < kl
        · have e2 : decide ((60 : Int) < (kl : Int)) = true := by simp; omega
          go_wp2_with fail
          go_ret
          exact ⟨⟨_, rfl⟩, hb0⟩
        · have e2 : decide ((60 : Int) < (kl : Int)) = false := by simp; omega
          go_wp2_with fail
          go_round
          case rel => exact ⟨i + 1, by go_num, by omega⟩
          case measure => simp [intOf]; omega
    · go_wp2_with fail
      go_ret
      exact ⟨⟨_, rfl⟩, hb0⟩

set_option maxRecDepth 20000 in
set_option maxHeartbeats 3200000 in
theorem fitSound_any (ra ga sa ya pa : Option Addr) (n c m d k sc k2 yc l pc : Nat) (single : Bool) (V0 V1 : Int) (R : List Int) (G S Y : List (Int × Int)) (T : List StepT) (w : World)
    (hk : k ≤ 9223372036854775807) (hk2 : k2 ≤ 9223372036854775807) (hl : l ≤ 9223372036854775807) (hR : Ints w ra n R) (hG : Pairs w ga m G) (hS : Pairs w sa k S) (hY : Pairs w ya k2 Y) (hT : Steps w pa l T) (hc : ra = none → c = 0) :
    Calls Try.prog 11 #[.agg #[.slice ra n c, .slice ga m d, .bool single], .agg #[.slice sa k sc, .int .i64 V0], .agg #[.slice ya k2 yc, .int .i64 V1], .agg #[.slice pa l pc]] w fun e w' => e = .returned (.bool true) ∧ Below w.heap.size w w' := by
  have hb0 : Below w.heap.size w ((((w.alloc (.cells #[.slice ra n c, .slice ga m d, .bool single] 25)).alloc (.cells #[.slice sa k sc, .int .i64 V0] 30)).alloc (.cells #[.slice ya k2 yc, .int .i64 V1] 30)).alloc (.cells #[.slice pa l pc] 46)) := ((((Below.refl _ _).alloc (Nat.le_refl _) _).alloc (by simp) _).alloc (by simp; omega) _).alloc (by simp; omega) _
  have HP0 : Hid (ProbAt ((((w.alloc (.cells #[.slice ra n c, .slice ga m d, .bool single] 25)).alloc (.cells #[.slice sa k sc, .int .i64 V0] 30)).alloc (.cells #[.slice ya k2 yc, .int .i64 V1] 30)).alloc (.cells #[.slice pa l pc] 46)) w.heap.size n m ra ga c d single R G) := ⟨(((Box.new rfl).alloc _).alloc _).alloc _, hR.below hb0, hG.below hb0, hc⟩
  have HX0 : Hid (PackAt ((((w.alloc (.cells #[.slice ra n c, .slice ga m d, .bool single] 25)).alloc (.cells #[.slice sa k sc, .int .i64 V0] 30)).alloc (.cells #[.slice ya k2 yc, .int .i64 V1] 30)).alloc (.cells #[.slice pa l pc] 46)) (w.heap.size + 1) k sa sc S V0) := ⟨((Box.new (by simp)).alloc _).alloc _, hS.below hb0⟩
  have HY0 : Hid (PackAt ((((w.alloc (.cells #[.slice ra n c, .slice ga m d, .bool single] 25)).alloc (.cells #[.slice sa k sc, .int .i64 V0] 30)).alloc (.cells #[.slice ya k2 yc, .int .i64 V1] 30)).alloc (.cells #[.slice pa l pc] 46)) (w.heap.size + 1 + 1) k2 ya yc Y V1) := ⟨(Box.new (by simp)).alloc _, hY.below hb0⟩
  have HF0 : Hid (ProofAt ((((w.alloc (.cells #[.slice ra n c, .slice ga m d, .bool single] 25)).alloc (.cells #[.slice sa k sc, .int .i64 V0] 30)).alloc (.cells #[.slice ya k2 yc, .int .i64 V1] 30)).alloc (.cells #[.slice pa l pc] 46)) (w.heap.size + 1 + 1 + 1) l pa pc T) := ⟨Box.new (by simp), hT.below hb0⟩
  have HBW0 := Lib.hid hb0
  clear hR hG hS hY hT hc hb0
  go_enter Try.func11, Try.ntmps11
  go_upto_region 1 with fail
  generalize ((((w.alloc (.cells #[.slice ra n c, .slice ga m d, .bool single] 25)).alloc (.cells #[.slice sa k sc, .int .i64 V0] 30)).alloc (.cells #[.slice ya k2 yc, .int .i64 V1] 30)).alloc (.cells #[.slice pa l pc] 46)) = w0 at *
  go_wp2_with fail
  refine (head22_any _).mono ?_
  rintro e w1 ⟨rfl, hb⟩
  have HP1 := Lib.hid (HP0.out.below hb)
  have HX1 := Lib.hid (HX0.out.below hb)
  have HY1 := Lib.hid (HY0.out.below hb)
  have HF1 := Lib.hid (HF0.out.below hb)
  have HBW1 := Lib.hid (HBW0.out.trans (hb.mono HBW0.out.size))
  clear hb HP0 HX0 HY0 HF0 HBW0
  have p0 := HP1.out.box.cell 0
  have p1 := HP1.out.box.cell 1
  have p2 := HP1.out.box.cell 2
  simp only [List.getElem?_toArray, List.getElem?_cons_zero, List.getElem?_cons_succ] at p0 p1 p2
  go_wp2_with fail
  refine (few_any ra ga n c m d single 40 w1).mono ?_
  rintro e w2 ⟨rfl, hb⟩
  have HP2 := Lib.hid (HP1.out.below hb)
  have HX2 := Lib.hid (HX1.out.below hb)
  have HY2 := Lib.hid (HY1.out.below hb)
  have HF2 := Lib.hid (HF1.out.below hb)
  have HBW2 := Lib.hid (HBW1.out.trans (hb.mono HBW1.out.size))
  clear hb HP1 HX1 HY1 HF1 HBW1
  clear p0 p1 p2
  by_cases hfew : n ≤ 40 ∧ m ≤ 40
  · rw [show decide (n ≤ 40 ∧ m ≤ 40) = true from decide_eq_true hfew]
    obtain ⟨hn, hm⟩ := hfew
    have f0 := HF2.out.box.cell 0
    simp only [List.getElem?_toArray, List.getElem?_cons_zero] at f0
    go_wp2_with fail
    refine (short_any pa l pc 400 T w2 hl HF2.out.steps).mono ?_
    rintro e w3 ⟨⟨q, rfl⟩, hb⟩
    have HP3 := Lib.hid (HP2.out.below hb)
    have HX3 := Lib.hid (HX2.out.below hb)
    have HY3 := Lib.hid (HY2.out.below hb)
    have HF3 := Lib.hid (HF2.out.below hb)
    have HBW3 := Lib.hid (HBW2.out.trans (hb.mono HBW2.out.size))
    clear hb HP2 HX2 HY2 HF2 HBW2
    clear f0
    cases q
    · go_wp2_with fail
      go_ret
      exact ⟨rfl, HBW3.out⟩
    · have p0 := HP3.out.box.cell 0
      have p1 := HP3.out.box.cell 1
      have p2 := HP3.out.box.cell 2
      have x0 := HX3.out.box.cell 0
      have x1 := HX3.out.box.cell 1
      have y0 := HY3.out.box.cell 0
      have f0 := HF3.out.box.cell 0
      simp only [List.getElem?_toArray, List.getElem?_cons_zero, List.getElem?_cons_succ] at p0 p1 p2 x0 x1 y0 f0
      by_cases h60 : 60 < k
      · have e1 : decide ((60 : Int) < (k : Int)) = true := by simp; omega
        go_wp2_with fail
        go_ret
        exact ⟨rfl, HBW3.out⟩
      · have e1 : decide ((60 : Int) < (k : Int)) = false := by simp; omega
        by_cases h602 : 60 < k2
        · have e2 : decide ((60 : Int) < (k2 : Int)) = true := by simp; omega
          go_wp2_with fail
          go_ret
          exact ⟨rfl, HBW3.out⟩
        · have e2 : decide ((60 : Int) < (k2 : Int)) = false := by simp; omega
          go_wp2_with fail
          refine (check_any ra ga sa pa n c m d k sc l pc single V0 R G S T w3 (by omega) (by omega) (by omega) HP3.out.runs HP3.out.groups HX3.out.spots HF3.out.steps HP3.out.nil).mono ?_
          rintro e w4 ⟨q, rfl, hb, hq⟩
          have HQ := Lib.hid hq
          have HP4 := Lib.hid (HP3.out.below hb)
          have HX4 := Lib.hid (HX3.out.below hb)
          have HY4 := Lib.hid (HY3.out.below hb)
          have HF4 := Lib.hid (HF3.out.below hb)
          have HBW4 := Lib.hid (HBW3.out.trans (hb.mono HBW3.out.size))
          clear hb HP3 HX3 HY3 HF3 HBW3
          clear hq e1 e2 p0 p1 p2 x0 x1 y0 f0
          cases q
          · go_wp2_with fail
            go_ret
            exact ⟨rfl, HBW4.out⟩
          · have HOK := Lib.hid (HQ.out.mp rfl)
            clear HQ
            have p0 := HP4.out.box.cell 0
            have p1 := HP4.out.box.cell 1
            have p2 := HP4.out.box.cell 2
            have x0 := HX4.out.box.cell 0
            have x1 := HX4.out.box.cell 1
            simp only [List.getElem?_toArray, List.getElem?_cons_zero, List.getElem?_cons_succ] at p0 p1 p2 x0 x1
            go_wp2_with fail
            refine (legal_any ra ga sa n c m d k sc single V0 R G S w4 (by omega) (by omega) (by omega) HP4.out.runs HP4.out.groups HX4.out.spots).mono ?_
            rintro e w5 ⟨q, rfl, hb, hq⟩
            obtain rfl : q = true := hq.mpr HOK.out.1
            have HP5 := Lib.hid (HP4.out.below hb)
            have HX5 := Lib.hid (HX4.out.below hb)
            have HY5 := Lib.hid (HY4.out.below hb)
            have HF5 := Lib.hid (HF4.out.below hb)
            have HBW5 := Lib.hid (HBW4.out.trans (hb.mono HBW4.out.size))
            clear hb HP4 HX4 HY4 HF4 HBW4
            clear hq p0 p1 p2 x0 x1
            have p0 := HP5.out.box.cell 0
            have p1 := HP5.out.box.cell 1
            have p2 := HP5.out.box.cell 2
            have y0 := HY5.out.box.cell 0
            have y1 := HY5.out.box.cell 1
            simp only [List.getElem?_toArray, List.getElem?_cons_zero, List.getElem?_cons_succ] at p0 p1 p2 y0 y1
            go_wp2_with fail
            refine (legal_any ra ga ya n c m d k2 yc single V1 R G Y w5 (by omega) (by omega) (by omega) HP5.out.runs HP5.out.groups HY5.out.spots).mono ?_
            rintro e w6 ⟨q, rfl, hb, hq⟩
            have HQ := Lib.hid hq
            have HP6 := Lib.hid (HP5.out.below hb)
            have HX6 := Lib.hid (HX5.out.below hb)
            have HY6 := Lib.hid (HY5.out.below hb)
            have HF6 := Lib.hid (HF5.out.below hb)
            have HBW6 := Lib.hid (HBW5.out.trans (hb.mono HBW5.out.size))
            clear hb HP5 HX5 HY5 HF5 HBW5
            clear hq p0 p1 p2 y0 y1
            cases q
            · go_wp2_with fail
              go_ret
              exact ⟨rfl, HBW6.out⟩
            · have hle : V1 ≤ V0 := check_sound (HQ.out.mp rfl) HOK.out.2.2.2
              have e3 : decide (V1 ≤ V0) = true := by simp; exact hle
              have x1 := HX6.out.box.cell 1
              have y1 := HY6.out.box.cell 1
              simp only [List.getElem?_toArray, List.getElem?_cons_zero, List.getElem?_cons_succ] at x1 y1
              go_wp2_with fail
              go_ret
              exact ⟨rfl, HBW6.out⟩
  · rw [show decide (n ≤ 40 ∧ m ≤ 40) = false from decide_eq_false hfew]
    go_wp2_with fail
    go_ret
    exact ⟨rfl, HBW2.out⟩
end Go.Proofs.Ytaomlhhlefpdeaa

namespace Go.Proofs.Ytaomlhhlefpdeaa
open Go.RowKit

theorem bestLoop_out {go : List Int → List Bool → Int} {s v : Int} {left : List Int} {used : List Bool} {out : Int} : ∀ r, out ≤ bestLoop go s v left used out r := by
  intro r
  induction r with
  | zero => exact Int.le_refl _
  | succ r ih =>
    rw [bestLoop]
    split
    · exact ih
    · split
      · omega
      · exact ih

theorem bestLoop_at {go : List Int → List Bool → Int} {s v : Int} {left : List Int} {used : List Bool} {out : Int} (q : Nat) (hs : s ≤ ix left q) (hg : 0 ≤ go (left.set q (ix left q - s)) (used.set q true)) :
    ∀ r, q < r → go (left.set q (ix left q - s)) (used.set q true) + s * v ≤ bestLoop go s v left used out r := by
  intro r
  induction r with
  | zero => intro h; omega
  | succ r ih =>
    intro h
    rw [bestLoop]
    by_cases e : q = r
    · subst e
      rw [if_neg (by omega), if_pos hg]
      omega
    · have := ih (by omega)
      split
      · exact this
      · split <;> omega

theorem bestLoop_cases {go : List Int → List Bool → Int} {s v : Int} {left : List Int} {used : List Bool} {out : Int} : ∀ r, bestLoop go s v left used out r = out ∨
    ∃ q, q < r ∧ s ≤ ix left q ∧ 0 ≤ go (left.set q (ix left q - s)) (used.set q true) ∧ bestLoop go s v left used out r = go (left.set q (ix left q - s)) (used.set q true) + s * v := by
  intro r
  induction r with
  | zero => exact Or.inl rfl
  | succ r ih =>
    have ih' : bestLoop go s v left used out r = out ∨ ∃ q, q < r + 1 ∧ s ≤ ix left q ∧ 0 ≤ go (left.set q (ix left q - s)) (used.set q true) ∧ bestLoop go s v left used out r = go (left.set q (ix left q - s)) (used.set q true) + s * v := by
      rcases ih with h | ⟨q, h1, h2⟩
      · exact Or.inl h
      · exact Or.inr ⟨q, by omega, h2⟩
    rw [bestLoop]
    split
    · exact ih'
    · split
      · rename_i h1 h2
        by_cases hm : go (left.set r (ix left r - s)) (used.set r true) + s * v ≤ bestLoop go s v left used out r
        · rw [Int.max_eq_left hm]; exact ih'
        · rw [Int.max_eq_right (by omega)]; exact Or.inr ⟨r, by omega, by omega, h2, rfl⟩
      · exact ih'

/-! ### Choices -/
/-- The decisions about the first n groups. -/
def dec (c : Nat → Int) (n : Nat) : List (Int × Int) := (List.range n).map fun (i : Nat) => ((i : Int), c i)

theorem dec_succ (c : Nat → Int) (n : Nat) : dec c (n + 1) = dec c n ++ [((n : Int), c n)] := by simp [dec, List.range_succ]

theorem dec_length (c : Nat → Int) (n : Nat) : (dec c n).length = n := by simp [dec]

theorem mem_dec (c : Nat → Int) (n : Nat) (p : Int × Int) : p ∈ dec c n ↔ ∃ i, i < n ∧ p = ((i : Int), c i) := by
  unfold dec
  rw [List.mem_map]
  exact ⟨fun ⟨i, hi, e⟩ => ⟨i, List.mem_range.mp hi, e.symm⟩, fun ⟨i, hi, e⟩ => ⟨i, List.mem_range.mpr hi, e.symm⟩⟩

theorem dec_congr (c c' : Nat → Int) (n : Nat) (h : ∀ i, i < n → c i = c' i) : dec c n = dec c' n := by
  unfold dec
  exact List.map_congr_left fun i hi => by rw [h i (List.mem_range.mp hi)]

theorem dec_once (c : Nat → Int) : ∀ n, Once (dec c n) := by
  intro n
  induction n with
  | zero => exact List.Pairwise.nil
  | succ n ih =>
    rw [dec_succ]
    unfold Once at *
    rw [List.pairwise_append]
    refine ⟨ih, List.pairwise_singleton .., fun p hp q hq => ?_⟩
    obtain ⟨i, hi, rfl⟩ := (mem_dec c n p).mp hp
    rw [List.mem_singleton.mp hq]
    dsimp only
    omega

theorem dec_ok {c : Nat → Int} {n m g : Nat} (hg : g ≤ m) (hc : ∀ i, i < g → -1 ≤ c i ∧ c i < n) : EsOk n m (dec c g) := by
  intro p hp
  obtain ⟨i, hi, rfl⟩ := (mem_dec c g p).mp hp
  have := hc i hi
  dsimp only
  omega

/-- Which runs somebody sits in. -/
def UsedOk (n : Nat) (es : List (Int × Int)) (used : List Bool) : Prop := used.length = n ∧ ∀ r, r < n → (bx used r = true ↔ ∃ p ∈ es, p.2 = (r : Int))

theorem UsedOk.sit {n : Nat} {es : List (Int × Int)} {used : List Bool} (h : UsedOk n es used) (g : Int) (q : Nat) (hq : q < n) : UsedOk n (es ++ [(g, (q : Int))]) (used.set q true) := by
  refine ⟨by rw [List.length_set]; exact h.1, fun r hr => ?_⟩
  rw [bx_set _ _ _ _ (by rw [h.1]; exact hq)]
  by_cases e : q = r
  · rw [if_pos e]
    exact ⟨fun _ => ⟨(g, (q : Int)), by simp, by dsimp only; omega⟩, fun _ => rfl⟩
  · rw [if_neg e, h.2 r hr]
    constructor
    · rintro ⟨p, hp, hpr⟩; exact ⟨p, by simp [hp], hpr⟩
    · rintro ⟨p, hp, hpr⟩
      rcases List.mem_append.mp hp with hp | hp
      · exact ⟨p, hp, hpr⟩
      · rw [List.mem_singleton.mp hp] at hpr; dsimp only at hpr; omega

theorem UsedOk.out {n : Nat} {es : List (Int × Int)} {used : List Bool} (h : UsedOk n es used) (g v : Int) (hv : v < 0) : UsedOk n (es ++ [(g, v)]) used := by
  refine ⟨h.1, fun r hr => ?_⟩
  rw [h.2 r hr]
  constructor
  · rintro ⟨p, hp, hpr⟩; exact ⟨p, by simp [hp], hpr⟩
  · rintro ⟨p, hp, hpr⟩
    rcases List.mem_append.mp hp with hp | hp
    · exact ⟨p, hp, hpr⟩
    · rw [List.mem_singleton.mp hp] at hpr; dsimp only at hpr; omega

theorem used_exists (n : Nat) (es : List (Int × Int)) : ∃ used, UsedOk n es used := by
  refine ⟨(List.range n).map fun (r : Nat) => es.any fun p => decide (p.2 = (r : Int)), by simp, fun r hr => ?_⟩
  have e : bx ((List.range n).map fun (r : Nat) => es.any fun p => decide (p.2 = (r : Int))) r = es.any fun p => decide (p.2 = (r : Int)) := by
    simp [bx, List.getD, hr]
  rw [e, List.any_eq_true]
  constructor
  · rintro ⟨p, hp, hpr⟩; exact ⟨p, hp, by simpa using hpr⟩
  · rintro ⟨p, hp, hpr⟩; exact ⟨p, hp, by simpa using hpr⟩

theorem bx_rep (m k : Nat) : bx (List.replicate m false) k = false := by
  unfold bx
  simp only [List.getD]
  by_cases h : k < m
  · simp [h]
  · rw [List.getElem?_eq_none (by simpa using h)]; rfl

theorem used_none (n : Nat) : UsedOk n [] (List.replicate n false) := by
  refine ⟨by simp, fun r hr => ?_⟩
  rw [bx_rep]
  exact ⟨fun h => by simp at h, fun ⟨p, hp, _⟩ => by simp at hp⟩

theorem usedS_pos (n r : Nat) (_hr : r < n) : ∀ (es : List (Int × Int)) (L : List Int), L.length = n → (∀ p ∈ es, p.2 < n) → 0 ≤ ix L r → ix L r ≤ ix (es.foldl usedF L) r ∧ ((∃ p ∈ es, p.2 = (r : Int)) → ix L r < ix (es.foldl usedF L) r) := by
  intro es
  induction es with
  | nil => intro L _ _ _; exact ⟨Int.le_refl _, fun ⟨p, hp, _⟩ => by simp at hp⟩
  | cons p es ih =>
    intro L hl hb h0
    have hp := hb p (by simp)
    have hs : ix (usedF L p) r = if p.2 = (r : Int) then ix L r + 1 else ix L r := by
      unfold usedF
      by_cases h : 0 ≤ p.2
      · rw [if_pos h, ix_set _ _ _ _ (by omega)]
        by_cases e : p.2 = (r : Int)
        · rw [if_pos (by omega), if_pos e, show p.2.toNat = r from by omega]
        · rw [if_neg (by omega), if_neg e]
      · rw [if_neg h, if_neg (by omega)]
    have i := ih (usedF L p) (by rw [usedF_length, hl]) (fun q hq => hb q (by simp [hq])) (by rw [hs]; split <;> omega)
    rw [List.foldl_cons]
    rw [hs] at i
    refine ⟨by have := i.1; split at this <;> omega, fun ⟨q, hq, e⟩ => ?_⟩
    rcases List.mem_cons.mp hq with rfl | hq
    · have := i.1; rw [if_pos e] at this; omega
    · have := i.2 ⟨q, hq, e⟩; split at this <;> omega

theorem usedS_iff {n m r : Nat} {es : List (Int × Int)} (hr : r < n) (ho : EsOk n m es) : 0 < ix (usedS n es) r ↔ ∃ p ∈ es, p.2 = (r : Int) := by
  have z : ix (List.replicate n 0) r = 0 := by simp [ix, List.getD, hr]
  constructor
  · intro h
    exact usedS_some (m := m) r hr es (List.replicate n 0) (by simp) ho (by rw [z]; exact h)
  · intro h
    have := (usedS_pos n r hr es (List.replicate n 0) (by simp) (fun p hp => (ho p hp).2.2) (by omega)).2 h
    rw [z] at this
    exact this

theorem roomS_len (G : List (Int × Int)) (es : List (Int × Int)) (R : List Int) : (roomS R G es).length = R.length := by
  unfold roomS
  have : ∀ (es : List (Int × Int)) (L : List Int), (es.foldl (roomF G) L).length = L.length := by
    intro es
    induction es with
    | nil => intro L; rfl
    | cons p es ih => intro L; rw [List.foldl_cons, ih, roomF_length]
  exact this es R

/-- What the first n groups take of run r. -/
def takes (G : List (Int × Int)) (c : Nat → Int) (r : Int) (n : Nat) : Int := sumRows (fun i => if c i = r then gs G i else 0) n

theorem room_takes (R : List Int) (G : List (Int × Int)) (c : Nat → Int) (r : Nat) : ∀ g, (∀ i, i < g → c i < R.length) → ix (roomS R G (dec c g)) r = ix R r - takes G c r g := by
  intro g
  induction g with
  | zero => intro _; show ix R r = _; rw [takes, sumRows]; omega
  | succ g ih =>
    intro h
    have i := ih fun i hi => h i (by omega)
    have hg := h g (by omega)
    rw [dec_succ, roomS_push, takes, sumRows, ← takes, roomF]
    dsimp only
    by_cases h0 : 0 ≤ c g
    · rw [if_pos h0, ix_set _ _ _ _ (by rw [roomS_len]; omega), Int.toNat_natCast]
      by_cases e : c g = (r : Int)
      · rw [if_pos (by omega), if_pos e, show (c g).toNat = r from by omega, i]; omega
      · rw [if_neg (by omega), if_neg e, i]; omega
    · rw [if_neg h0, if_neg (by omega), i]; omega

theorem rooms_dec (R : List Int) (G : List (Int × Int)) (W : List Int) : ∀ i, roomsL R G W i = roomS R G (dec (ix W) i) := by
  intro i
  induction i with
  | zero => rfl
  | succ i ih =>
    rw [roomsL, dec_succ, roomS_push, ih, roomF]
    simp only [Int.toNat_natCast]

theorem takes_nonneg {G : List (Int × Int)} (hv : ValuesOk G) (c : Nat → Int) (r : Int) : ∀ n, n ≤ G.length → 0 ≤ takes G c r n := by
  intro n
  induction n with
  | zero => intro _; exact Int.le_refl _
  | succ n ih =>
    intro h
    have := ih (by omega)
    have := (hv n (by omega)).1
    rw [takes, sumRows, ← takes]
    split <;> omega

theorem takes_at {G : List (Int × Int)} (hv : ValuesOk G) (c : Nat → Int) (r : Int) : ∀ n i, n ≤ G.length → i < n → c i = r → takes G c r i + gs G i ≤ takes G c r n := by
  intro n
  induction n with
  | zero => intro i _ h; omega
  | succ n ih =>
    intro i h hi e
    have hg := (hv n (by omega)).1
    rw [takes, takes, sumRows, ← takes, ← takes]
    by_cases h1 : i = n
    · subst h1; rw [if_pos e]; exact Int.le_refl _
    · have := ih i (by omega) (by omega) e
      split <;> omega

/-! ### No permitted packing brings more than bestS -/
section
variable {single : Bool} {R : List Int} {G S : List (Int × Int)} {V : Int}

theorem legal_runs (h : LegalP single R G S V) (i : Nat) (hi : i < G.length) : -1 ≤ gs S i ∧ gs S i < R.length := by
  rcases ((legal_iff ..).mp h).2.2.1 i hi with a | b
  · omega
  · unfold badSpot at b; omega

theorem best_upper (h : LegalP single R G S V) : ∀ (k g : Nat) (used : List Bool), g + k = G.length → UsedOk R.length (dec (gs S) g) used →
    0 ≤ bestF single G k g (roomS R G (dec (gs S) g)) used ∧ V ≤ valS G (dec (gs S) g) + bestF single G k g (roomS R G (dec (gs S) g)) used := by
  have hru := legal_runs h
  have hok : ∀ g, g ≤ G.length → EsOk R.length G.length (dec (gs S) g) := fun g hg => dec_ok hg (fun i hi => hru i (by omega))
  have hext : ∀ g, Ext S (dec (gs S) g) := fun g p hp => by
    obtain ⟨i, _, rfl⟩ := (mem_dec _ g p).mp hp
    simp
  intro k
  induction k with
  | zero =>
    intro g used hg hu
    have e : g = G.length := by omega
    have hnot : ¬ (single = true ∧ ∃ r, r < (roomS R G (dec (gs S) g)).length ∧ oneLeft (roomS R G (dec (gs S) g)) used r = true) := by
      rintro ⟨rfl, r, hr, h1⟩
      rw [roomS_len] at hr
      unfold oneLeft at h1
      rw [Bool.and_eq_true, decide_eq_true_eq] at h1
      have hf := fits_sound h (hok g (by omega)) (dec_once _ g) (hext g) r
      unfold fitsOk at hf
      rw [if_neg (by omega), Int.toNat_natCast, dec_length, e] at hf
      have hup := (usedS_iff hr (hok g (by omega))).mpr ((hu.2 r hr).mp h1.1)
      rw [e] at hup h1
      simp [hup, h1.2] at hf
    rw [bestF, if_neg hnot]
    refine ⟨Int.le_refl _, ?_⟩
    rw [val_ext (hok g (by omega)) (dec_once _ g) (hext g), ← ((legal_iff ..).mp h).2.2.2.2, amtV_amt]
    refine Int.le_of_eq ?_
    rw [Int.add_zero]
    refine amt_congr _ _ _ (fun x hx => ?_)
    rw [all_decided (hok g (by omega)) (dec_once _ g) (by rw [dec_length]; exact e) x hx, if_pos rfl]
  | succ k ih =>
    intro g used hg hu
    have hru' := hru g (by omega)
    rw [bestF]
    by_cases h0 : gs S g = -1
    · have i := ih (g + 1) used (by omega) (by rw [dec_succ]; exact hu.out _ _ (by omega))
      rw [dec_succ, roomS_push, valS_push, roomF, valF] at i
      dsimp only at i
      rw [if_neg (by omega), if_neg (by omega)] at i
      have l := bestLoop_out (go := bestF single G k (g + 1)) (s := gs G g) (v := gv G g) (left := roomS R G (dec (gs S) g)) (used := used) (out := bestF single G k (g + 1) (roomS R G (dec (gs S) g)) used) (roomS R G (dec (gs S) g)).length
      omega
    · obtain ⟨q, hq⟩ : ∃ q : Nat, gs S g = q := ⟨(gs S g).toNat, by omega⟩
      have hqn : q < R.length := by omega
      have hs := (und_room h (hok (g + 1) (by omega)) (dec_once _ (g + 1)) (hext (g + 1)) q hqn)
      have i := ih (g + 1) (used.set q true) (by omega) (by rw [dec_succ, hq]; exact hu.sit _ _ hqn)
      rw [dec_succ, roomS_push, hq, roomF] at hs
      rw [dec_succ, roomS_push, valS_push, hq, roomF, valF] at i
      dsimp only at i hs
      rw [if_pos (by omega)] at hs
      rw [if_pos (by omega), if_pos (by omega)] at i
      simp only [Int.toNat_natCast] at i hs
      rw [ix_set _ _ _ _ (by rw [roomS_len]; exact hqn), if_pos rfl] at hs
      have l := bestLoop_at (go := bestF single G k (g + 1)) (s := gs G g) (v := gv G g) (left := roomS R G (dec (gs S) g)) (used := used) (out := bestF single G k (g + 1) (roomS R G (dec (gs S) g)) used) q (by omega) i.1 (roomS R G (dec (gs S) g)).length (by rw [roomS_len]; exact hqn)
      have := i.1
      have hp := ((validS_parts ((legal_iff ..).mp h).1).2.2 g (by omega))
      have : 0 ≤ gs G g * gv G g := Int.mul_nonneg (by omega) (by omega)
      omega

theorem best_most (h : LegalP single R G S V) : 0 ≤ bestS single R G ∧ V ≤ bestS single R G := by
  have := best_upper h G.length 0 (List.replicate R.length false) (by omega) (used_none _)
  have e : valS G (dec (gs S) 0) = 0 := rfl
  rw [e] at this
  have e2 : roomS R G (dec (gs S) 0) = R := rfl
  rw [e2] at this
  unfold bestS
  omega
end

/-! ### And one brings it -/
/-- A choice of runs that can be seated. -/
structure Choice (single : Bool) (R : List Int) (G : List (Int × Int)) (c : Nat → Int) : Prop where
  runs : ∀ i, i < G.length → -1 ≤ c i ∧ c i < R.length
  room : ∀ r, r < R.length → 0 ≤ ix (roomS R G (dec c G.length)) r
  one : single = true → ∀ r, r < R.length → (∃ i, i < G.length ∧ c i = (r : Int)) → ix (roomS R G (dec c G.length)) r ≠ 1

theorem best_choice (single : Bool) (R : List Int) (G : List (Int × Int)) : ∀ (k g : Nat) (c : Nat → Int) (used : List Bool), g + k = G.length → (∀ i, i < g → -1 ≤ c i ∧ c i < R.length) → UsedOk R.length (dec c g) used →
    (∀ r, r < R.length → 0 ≤ ix (roomS R G (dec c g)) r) → 0 ≤ bestF single G k g (roomS R G (dec c g)) used →
    ∃ c', (∀ i, i < g → c' i = c i) ∧ Choice single R G c' ∧ valS G (dec c' G.length) = valS G (dec c g) + bestF single G k g (roomS R G (dec c g)) used := by
  intro k
  induction k with
  | zero =>
    intro g c used hg hc hu hr hb
    obtain rfl : g = G.length := by omega
    rw [bestF] at hb ⊢
    by_cases hn : single = true ∧ ∃ r, r < (roomS R G (dec c G.length)).length ∧ oneLeft (roomS R G (dec c G.length)) used r = true
    · rw [if_pos hn] at hb; omega
    · rw [if_neg hn]
      refine ⟨c, fun _ _ => rfl, ⟨hc, hr, fun hs r hr' ⟨i, hi, e⟩ h1 => hn ⟨hs, r, by rw [roomS_len]; exact hr', ?_⟩⟩, by omega⟩
      unfold oneLeft
      rw [(hu.2 r hr').mpr ⟨((i : Int), c i), (mem_dec _ _ _).mpr ⟨i, hi, rfl⟩, e⟩, h1]; rfl
  | succ k ih =>
    intro g c used hg hc hu hr hb
    rw [bestF] at hb ⊢
    have hstep : ∀ v : Int, dec (fun i => if i = g then v else c i) (g + 1) = dec c g ++ [((g : Int), v)] := fun v => by
      rw [dec_succ, dec_congr (fun i => if i = g then v else c i) c g (fun i hi => if_neg (by omega))]
      simp
    rcases bestLoop_cases (go := bestF single G k (g + 1)) (s := gs G g) (v := gv G g) (left := roomS R G (dec c g)) (used := used) (out := bestF single G k (g + 1) (roomS R G (dec c g)) used) (roomS R G (dec c g)).length with hout | ⟨q, hq, hs, h0, hat⟩
    · rw [hout] at hb ⊢
      have i := ih (g + 1) (fun i => if i = g then -1 else c i) used (by omega) (fun i hi => by
          split
          · omega
          · exact hc i (by omega)) (by rw [hstep]; exact hu.out _ _ (by omega))
      rw [hstep, roomS_push, valS_push, roomF, valF] at i
      dsimp only at i
      rw [if_neg (by omega), if_neg (by omega)] at i
      obtain ⟨c', h1, h2, h3⟩ := i hr hb
      exact ⟨c', fun i hi => by rw [h1 i (by omega), if_neg (by omega)], h2, h3⟩
    · rw [roomS_len] at hq
      rw [hat] at hb ⊢
      have i := ih (g + 1) (fun i => if i = g then (q : Int) else c i) (used.set q true) (by omega) (fun i hi => by
          split
          · omega
          · exact hc i (by omega)) (by rw [hstep]; exact hu.sit _ _ hq)
      rw [hstep, roomS_push, valS_push, roomF, valF] at i
      dsimp only at i
      rw [if_pos (by omega), if_pos (by omega)] at i
      simp only [Int.toNat_natCast] at i
      obtain ⟨c', h1, h2, h3⟩ := i (fun r hr' => by
          rw [ix_set _ _ _ _ (by rw [roomS_len]; exact hq)]
          split
          · omega
          · exact hr r hr') h0
      exact ⟨c', fun i hi => by rw [h1 i (by omega), if_neg (by omega)], h2, by rw [h3]; omega⟩

/-- The groups of a choice, one behind the other. -/
def seatAll (G : List (Int × Int)) (c : Nat → Int) : List (Int × Int) := (List.range G.length).map fun (k : Nat) => (c k, if 0 ≤ c k then takes G c (c k) k else 0)

theorem seat_at (G : List (Int × Int)) (c : Nat → Int) (k : Nat) (hk : k < G.length) : gs (seatAll G c) k = c k ∧ gv (seatAll G c) k = if 0 ≤ c k then takes G c (c k) k else 0 := spots_get _ _ _ hk

theorem choice_legal {single : Bool} {R : List Int} {G : List (Int × Int)} {c : Nat → Int} (hv : validS R G = true) (h : Choice single R G c) : LegalP single R G (seatAll G c) (valS G (dec c G.length)) := by
  have hp := (validS_parts hv).2.2
  have hrs := (runsOk_sum R 4000 (by omega) (validS_parts hv).1).2.2
  have hroom : ∀ r, r < R.length → takes G c r G.length ≤ ix R r := fun r hr => by
    have a := h.room r hr
    rw [room_takes R G c r _ (fun i hi => (h.runs i hi).2)] at a
    omega
  have hrow : ∀ (r : Nat), ∀ n, n ≤ G.length → rowSum (rowL G (seatAll G c) r n) = takes G c r n := by
    intro r n
    induction n with
    | zero => intro _; rfl
    | succ n ih =>
      intro hn
      rw [rowL, takes, sumRows, ← takes, ← ih (by omega), (seat_at G c n (by omega)).1]
      split
      · rw [rowSum_append]; simp [rowSum]
      · omega
  refine (legal_iff ..).mpr ⟨hv, by simp [seatAll], fun k hk => ?_, fun r hr => ?_, ?_⟩
  · have hr := h.runs k hk
    unfold SpotOk
    rw [(seat_at G c k hk).1, (seat_at G c k hk).2]
    by_cases h0 : 0 ≤ c k
    · right
      have a := takes_at hp c (c k) G.length k (Nat.le_refl _) hk rfl
      have b := takes_nonneg hp c (c k) k (by omega)
      have d := hroom (c k).toNat (by omega)
      rw [Int.toNat_of_nonneg h0] at d
      unfold badSpot
      rw [if_pos h0]
      omega
    · left; rw [if_neg h0]; omega
  · have hnn := takes_nonneg hp c r G.length (Nat.le_refl _)
    refine rowLegal_nogap (E := takes G c r G.length) (fun x hx => ?_) (rowL_apart G _ r _ (fun i j hij hj ei ej => ?_)) (fun x hx => ?_) hnn (hrow r _ (Nat.le_refl _)) (fun hs => ?_)
    · obtain ⟨k, hk, e, rfl⟩ := rowL_mem G _ r _ x hx
      exact (hp k hk).1.1
    · left
      rw [(seat_at G c i (by omega)).1] at ei
      rw [(seat_at G c j hj).1] at ej
      rw [(seat_at G c i (by omega)).2, (seat_at G c j hj).2, if_pos (by omega), if_pos (by omega), ei, ej]
      exact takes_at hp c r j i (by omega) hij ei
    · obtain ⟨k, hk, e, rfl⟩ := rowL_mem G _ r _ x hx
      dsimp only
      rw [(seat_at G c k hk).1] at e
      rw [(seat_at G c k hk).2, if_pos (by omega), e]
      have a := takes_at hp c r G.length k (Nat.le_refl _) hk e
      have b := takes_nonneg hp c r k (by omega)
      omega
    · by_cases he : ∃ i, i < G.length ∧ c i = (r : Int)
      · left
        have a := h.one hs r hr he
        rw [room_takes R G c r _ (fun i hi => (h.runs i hi).2)] at a
        omega
      · right
        have : ∀ n, n ≤ G.length → takes G c r n = 0 := by
          intro n
          induction n with
          | zero => intro _; rfl
          | succ n ih =>
            intro hn
            rw [takes, sumRows, ← takes, ih (by omega), if_neg (fun e => he ⟨n, by omega, e⟩)]; rfl
        exact this _ (Nat.le_refl _)
  · have : ∀ n, n ≤ G.length → amtV G (taken G (seatAll G c)) (idx n) = valS G (dec c n) := by
      intro n
      induction n with
      | zero => intro _; rfl
      | succ n ih =>
        intro hn
        have hr := h.runs n (by omega)
        rw [idx_succ, amtV_append, ih (by omega), dec_succ, valS_push, valF]
        simp only [amtV, taken, Int.toNat_natCast, (seat_at G c n (by omega)).1]
        by_cases h0 : 0 ≤ c n
        · rw [if_neg (by omega), if_pos h0]; omega
        · rw [if_pos (by omega), if_neg h0]; omega
    exact this _ (Nat.le_refl _)

/-- A permitted packing brings bestS. -/
theorem best_attained {single : Bool} {R : List Int} {G : List (Int × Int)} (hv : validS R G = true) (h0 : 0 ≤ bestS single R G) : ∃ S, LegalP single R G S (bestS single R G) := by
  have hrs := (runsOk_sum R 4000 (by omega) (validS_parts hv).1).2.2
  obtain ⟨c, _, hc, e⟩ := best_choice single R G G.length 0 (fun _ => -1) (List.replicate R.length false) (by omega) (fun i hi => by omega) (used_none _) (fun r hr => by
    have := hrs r hr
    show 0 ≤ ix R r
    omega) h0
  have e0 : valS G (dec (fun _ => -1) 0) = 0 := rfl
  have e1 : roomS R G (dec (fun _ => -1) 0) = R := rfl
  rw [e0, e1, Int.zero_add] at e
  have e2 : valS G (dec c G.length) = bestS single R G := e
  exact ⟨_, e2 ▸ choice_legal hv hc⟩
end Go.Proofs.Ytaomlhhlefpdeaa

namespace Go.Proofs.Ytaomlhhlefpdeaa
open Go.RowKit

theorem firstBad_some {p : Nat → Bool} {r : Nat} : ∀ n i, firstBad p i n = some r → i ≤ r ∧ r < i + n ∧ p r = true := by
  intro n
  induction n with
  | zero => intro i h; simp [firstBad] at h
  | succ n ih =>
    intro i h
    rw [firstBad] at h
    split at h
    · rename_i hp
      obtain rfl : i = r := by simpa using h
      exact ⟨Nat.le_refl _, by omega, hp⟩
    · have := ih (i + 1) h
      exact ⟨by omega, by omega, this.2.2⟩

theorem firstBad_all {p : Nat → Bool} : ∀ n i, firstBad p i n = none → ∀ q, i ≤ q → q < i + n → p q = false := by
  intro n
  induction n with
  | zero => intro i _ q h1 h2; omega
  | succ n ih =>
    intro i h q h1 h2
    rw [firstBad] at h
    split at h
    · simp at h
    · rename_i hp
      by_cases e : q = i
      · subst e; simpa using hp
      · exact ih (i + 1) h q (by omega) (by omega)

/-- The steps of one kid among all. -/
theorem prvKids_split (f : List Int → Nat → List StepT) (W : List Int) (g n base r : Nat) : ∀ N, r < N → ∃ X, (prvKids f W g n base N).1 = (prvKids f W g n base r).1 ++ f (W.set g (if r = n then -1 else (r : Int))) (base + 1 + (prvKids f W g n base r).1.length) ++ X := by
  intro N
  induction N with
  | zero => intro h; omega
  | succ N ih =>
    intro h
    rw [prvKids]
    dsimp only
    by_cases e : r = N
    · subst e; exact ⟨[], by simp⟩
    · obtain ⟨X, hX⟩ := ih (by omega)
      exact ⟨X ++ f (W.set g (if N = n then -1 else (N : Int))) (base + 1 + (prvKids f W g n base N).1.length), by rw [hX]; simp⟩

theorem prvKids_at (f : List Int → Nat → List StepT) (W : List Int) (g n base r : Nat) : ∀ N, r < N → (prvKids f W g n base N).2.drop r = ((base + 1 + (prvKids f W g n base r).1.length : Nat) : Int) :: (prvKids f W g n base N).2.drop (r + 1) ∧ (prvKids f W g n base N).2.length = N := by
  have hl : ∀ N, (prvKids f W g n base N).2.length = N := by
    intro N
    induction N with
    | zero => rfl
    | succ N ih => rw [prvKids]; simp [ih]
  intro N
  induction N with
  | zero => intro h; omega
  | succ N ih =>
    intro h
    refine ⟨?_, hl _⟩
    rw [prvKids]
    dsimp only
    by_cases e : r = N
    · subst e
      rw [List.drop_append_of_le_length (by rw [hl]; exact Nat.le_refl _), List.drop_eq_nil_of_le (by rw [hl]; exact Nat.le_refl _), List.drop_eq_nil_of_le (by simp [hl])]
      rfl
    · rw [List.drop_append_of_le_length (by rw [hl]; omega), (ih (by omega)).1, List.drop_append_of_le_length (by rw [hl]; omega)]
      rfl

theorem stepAt_mid (A : List StepT) (t : StepT) (B : List StepT) : stepAt (A ++ t :: B) A.length = t := by
  simp [stepAt, List.getD]

theorem ix_setC (W : List Int) (g i : Nat) (v : Int) (hg : g < W.length) : ix (W.set g v) i = if i = g then v else ix W i := by
  rw [ix_set _ _ _ _ hg]
  by_cases e : g = i
  · rw [if_pos e, if_pos e.symm]
  · rw [if_neg e, if_neg (fun h => e h.symm)]

theorem rooms_rest (R : List Int) (G : List (Int × Int)) (W : List Int) (g : Nat) : ∀ j, (∀ i, g ≤ i → i < g + j → ix W i < 0) → roomsL R G W (g + j) = roomsL R G W g := by
  intro j
  induction j with
  | zero => intro _; rfl
  | succ j ih =>
    intro h
    have hj := h (g + j) (by omega) (by omega)
    rw [← Nat.add_assoc, roomsL, if_neg (by omega), ih fun i h1 h2 => h i h1 (by omega)]

section
variable {single : Bool} {R : List Int} {G : List (Int × Int)} {most : Int} {T : List StepT}

theorem prv_right (hv : ValuesOk G) (hn : R.length ≤ 4) : ∀ (k g : Nat) (W : List Int) (A B : List StepT) (f : Nat) (seen : List Bool), g + k = G.length → W.length = G.length →
    (∀ i, i < g → -1 ≤ ix W i ∧ ix W i < R.length) → (∀ i, g ≤ i → i < G.length → ix W i = -2) → T = A ++ prvF single R G k W A.length ++ B → (prvF single R G k W A.length).length ≤ f → seen.length = T.length → (∀ j, A.length ≤ j → bx seen j = false) →
    (∀ used, UsedOk R.length (dec (ix W) g) used → (∀ r, r < R.length → 0 ≤ ix (roomS R G (dec (ix W) g)) r) → 0 ≤ bestF single G k g (roomS R G (dec (ix W) g)) used → valS G (dec (ix W) g) + bestF single G k g (roomS R G (dec (ix W) g)) used ≤ most) →
    (rightS single R G most T f (dec (ix W) g) seen A.length).1 = true ∧ (rightS single R G most T f (dec (ix W) g) seen A.length).2.length = T.length ∧
      ∀ j, A.length + (prvF single R G k W A.length).length ≤ j → bx (rightS single R G most T f (dec (ix W) g) seen A.length).2 j = false := by
  intro k
  induction k with
  | zero =>
    intro g W A B f seen hg hW hW1 hW2 hT hf hs hseen hmost
    obtain rfl : g = G.length := by omega
    have hok : EsOk R.length G.length (dec (ix W) G.length) := dec_ok (Nat.le_refl _) hW1
    have hroomL := rooms_dec R G W G.length
    have hlen1 := (prvF_len (single := single) (G := G) hn 0 W A.length).1
    obtain ⟨f, rfl⟩ : ∃ x, f = x + 1 := ⟨f - 1, by omega⟩
    have hAT : A.length < T.length := by rw [hT]; simp; omega
    have hset : ∀ j, A.length + 1 ≤ j → bx (seen.set A.length true) j = false := fun j hj => by
      rw [bx_set _ _ _ _ (by omega), if_neg (by omega)]; exact hseen j (by omega)
    cases hb : firstBad (badRun2 single (decide (0 = 0)) R (roomsL R G W G.length)) 0 R.length with
    | some r =>
      rw [prvF_bad 0 A.length hb] at hT ⊢
      obtain ⟨_, hr, hbad⟩ := firstBad_some _ _ hb
      have hst : stepAt T A.length = ⟨3, (r : Int), []⟩ := by rw [hT, List.append_assoc]; exact stepAt_mid A _ B
      have e : rightS single R G most T (f + 1) (dec (ix W) G.length) seen A.length = (fitsOk single R G (dec (ix W) G.length) r, seen.set A.length true) := by
        rw [rightS, hst, hseen A.length (Nat.le_refl _)]; simp
      rw [e]
      refine ⟨?_, by simp [hs], fun j hj => hset j (by simpa using hj)⟩
      unfold fitsOk
      rw [if_neg (by omega), Int.toNat_natCast, dec_length]
      unfold badRun2 at hbad
      rw [hroomL] at hbad
      simp only [Bool.or_eq_true, Bool.and_eq_true, decide_eq_true_eq] at hbad ⊢
      rcases hbad with h | ⟨⟨⟨h1, _⟩, h2⟩, h3⟩
      · exact Or.inl h
      · refine Or.inr ⟨⟨⟨h1, trivial⟩, (usedS_iff (by omega) hok).mpr ?_⟩, h2⟩
        apply Classical.byContradiction
        intro hno
        have : ∀ n, n ≤ G.length → takes G (ix W) r n = 0 := by
          intro n
          induction n with
          | zero => intro _; rfl
          | succ n ih =>
            intro hn
            rw [takes, sumRows, ← takes, ih (by omega), if_neg (fun e => hno ⟨((n : Int), ix W n), (mem_dec _ _ _).mpr ⟨n, by omega, rfl⟩, e⟩)]; rfl
        rw [room_takes R G (ix W) r _ (fun i hi => (hW1 i hi).2), this _ (Nat.le_refl _)] at h3
        omega
    | none =>
      rw [prvF_zero A.length hb] at hT ⊢
      have hall := firstBad_all _ _ hb
      have hst : stepAt T A.length = ⟨2, 0, []⟩ := by rw [hT, List.append_assoc]; exact stepAt_mid A _ B
      have e : rightS single R G most T (f + 1) (dec (ix W) G.length) seen A.length = (boundOk R G (dec (ix W) G.length) most, seen.set A.length true) := by
        rw [rightS, hst, hseen A.length (Nat.le_refl _)]; simp
      rw [e]
      refine ⟨?_, by simp [hs], fun j hj => hset j (by simpa using hj)⟩
      unfold boundOk
      rw [decide_eq_true_eq, fillS_all G _ _ _ (fun x hx => all_decided hok (dec_once _ _) (dec_length _ _) x ((mem_idx _ _).mpr ((mem_ranked G x).mp hx)))]
      obtain ⟨used, hu⟩ := used_exists R.length (dec (ix W) G.length)
      have hroom : ∀ r, r < R.length → 0 ≤ ix (roomS R G (dec (ix W) G.length)) r := fun r hr => by
        have := hall r (Nat.zero_le _) (by omega)
        unfold badRun2 at this
        rw [hroomL] at this
        simp only [Bool.or_eq_false_iff, decide_eq_false_iff_not] at this
        omega
      have hz : bestF single G 0 G.length (roomS R G (dec (ix W) G.length)) used = 0 := by
        rw [bestF, if_neg]
        rintro ⟨hsg, r, hr, h1⟩
        rw [roomS_len] at hr
        have hb := hall r (Nat.zero_le _) (by omega)
        unfold badRun2 at hb
        rw [hroomL] at hb
        unfold oneLeft at h1
        rw [Bool.and_eq_true, decide_eq_true_eq] at h1
        obtain ⟨p, hp, hpr⟩ := (hu.2 r hr).mp h1.1
        obtain ⟨i, hi, rfl⟩ := (mem_dec _ _ p).mp hp
        have ht := takes_at hv (ix W) r G.length i (Nat.le_refl _) hi hpr
        have ht0 := takes_nonneg hv (ix W) r i (by omega)
        have := (hv i hi).1
        have hlt : ix (roomS R G (dec (ix W) G.length)) r < ix R r := by
          rw [room_takes R G (ix W) r _ (fun i hi => (hW1 i hi).2)]; omega
        rw [hsg, h1.2] at hb
        rw [h1.2] at hlt
        simp [hlt] at hb
      have := hmost used hu hroom (by rw [hz]; exact Int.le_refl _)
      rw [hz] at this
      omega
  | succ k ih =>
    intro g W A B f seen hg hW hW1 hW2 hT hf hs hseen hmost
    have hgm : G.length - (k + 1) = g := by omega
    have hok : EsOk R.length G.length (dec (ix W) g) := dec_ok (by omega) hW1
    have hroomL : roomsL R G W G.length = roomS R G (dec (ix W) g) := by
      rw [← rooms_dec, ← hg]; exact rooms_rest R G W g (k + 1) (fun i h1 h2 => by have := hW2 i h1 (by omega); omega)
    have hlen1 := (prvF_len (single := single) (G := G) hn (k + 1) W A.length).1
    obtain ⟨f, rfl⟩ : ∃ x, f = x + 1 := ⟨f - 1, by omega⟩
    have hAT : A.length < T.length := by rw [hT]; simp; omega
    have hset : ∀ j, A.length + 1 ≤ j → bx (seen.set A.length true) j = false := fun j hj => by
      rw [bx_set _ _ _ _ (by omega), if_neg (by omega)]; exact hseen j (by omega)
    cases hb : firstBad (badRun2 single (decide (k + 1 = 0)) R (roomsL R G W G.length)) 0 R.length with
    | some r =>
      rw [prvF_bad (k + 1) A.length hb] at hT ⊢
      obtain ⟨_, hr, hbad⟩ := firstBad_some _ _ hb
      have hst : stepAt T A.length = ⟨3, (r : Int), []⟩ := by rw [hT, List.append_assoc]; exact stepAt_mid A _ B
      have e : rightS single R G most T (f + 1) (dec (ix W) g) seen A.length = (fitsOk single R G (dec (ix W) g) r, seen.set A.length true) := by
        rw [rightS, hst, hseen A.length (Nat.le_refl _)]; simp
      rw [e]
      refine ⟨?_, by simp [hs], fun j hj => hset j (by simpa using hj)⟩
      unfold fitsOk
      rw [if_neg (by omega), Int.toNat_natCast, dec_length]
      unfold badRun2 at hbad
      rw [hroomL] at hbad
      simp only [Bool.or_eq_true, Bool.and_eq_true, decide_eq_true_eq] at hbad ⊢
      rcases hbad with h | ⟨⟨⟨_, h0⟩, _⟩, _⟩
      · exact Or.inl h
      · omega
    | none =>
      have hall := firstBad_all _ _ hb
      have hroom : ∀ r, r < R.length → 0 ≤ ix (roomS R G (dec (ix W) g)) r := fun r hr => by
        have := hall r (Nat.zero_le _) (by omega)
        unfold badRun2 at this
        rw [hroomL] at this
        simp only [Bool.or_eq_false_iff, decide_eq_false_iff_not] at this
        omega
      rw [prvF_succ k A.length hb, hgm] at hT hf ⊢
      generalize hgo : prvF single R G k = F at hT hf ⊢
      have hst : stepAt T A.length = ⟨1, (g : Int), (prvKids F W g R.length A.length (R.length + 1)).2⟩ := by rw [hT, List.append_assoc]; exact stepAt_mid A _ _
      have hkl : (prvKids F W g R.length A.length (R.length + 1)).2.length = R.length + 1 := (prvKids_at F W g R.length A.length 0 (R.length + 1) (by omega)).2
      have hnd : ¬ decidedB (dec (ix W) g) (g : Int) = true := fun h => by
        obtain ⟨p, hp, e⟩ := (decidedB_iff _ _).mp h
        obtain ⟨i, hi, rfl⟩ := (mem_dec _ _ p).mp hp
        dsimp only at e
        omega
      have e : rightS single R G most T (f + 1) (dec (ix W) g) seen A.length =
          kidsL (rightS single R G most T f) (dec (ix W) g) g A.length T.length R.length 0 (prvKids F W g R.length A.length (R.length + 1)).2 (seen.set A.length true) := by
        rw [rightS, hst, hseen A.length (Nat.le_refl _)]
        dsimp only
        rw [if_neg (by simp), if_pos rfl, if_neg]
        rw [hkl]
        intro h
        rcases h with h | h | h | h
        · omega
        · omega
        · exact h rfl
        · exact hnd h
      rw [e]
      have hkids : ∀ j r s, r + j = R.length + 1 → s.length = T.length → (∀ q, A.length + 1 + (prvKids F W g R.length A.length r).1.length ≤ q → bx s q = false) →
          (kidsL (rightS single R G most T f) (dec (ix W) g) g A.length T.length R.length r ((prvKids F W g R.length A.length (R.length + 1)).2.drop r) s).1 = true ∧
          (kidsL (rightS single R G most T f) (dec (ix W) g) g A.length T.length R.length r ((prvKids F W g R.length A.length (R.length + 1)).2.drop r) s).2.length = T.length ∧
          ∀ q, A.length + 1 + (prvKids F W g R.length A.length (R.length + 1)).1.length ≤ q → bx (kidsL (rightS single R G most T f) (dec (ix W) g) g A.length T.length R.length r ((prvKids F W g R.length A.length (R.length + 1)).2.drop r) s).2 q = false := by
        intro j
        induction j with
        | zero =>
          intro r s hr hsl hsq
          obtain rfl : r = R.length + 1 := by omega
          rw [List.drop_eq_nil_of_le (by omega), kidsL]
          exact ⟨rfl, hsl, hsq⟩
        | succ j ihj =>
          intro r s hr hsl hsq
          rw [(prvKids_at F W g R.length A.length r (R.length + 1) (by omega)).1, kidsL]
          obtain ⟨X, hX⟩ := prvKids_split F W g R.length A.length r (R.length + 1) (by omega)
          have hFl := (prvF_len (single := single) (G := G) hn k (W.set g (if r = R.length then -1 else (r : Int))) (A.length + 1 + (prvKids F W g R.length A.length r).1.length)).1
          rw [hgo] at hFl
          have hlen : (prvKids F W g R.length A.length (R.length + 1)).1.length = (prvKids F W g R.length A.length r).1.length + (F (W.set g (if r = R.length then -1 else (r : Int))) (A.length + 1 + (prvKids F W g R.length A.length r).1.length)).length + X.length := by
            rw [hX]; simp only [List.length_append]
          have hTl : T.length = A.length + (1 + (prvKids F W g R.length A.length (R.length + 1)).1.length) + B.length := by
            rw [hT]; simp; omega
          rw [if_neg (by omega)]
          dsimp only
          rw [Int.toNat_natCast]
          -- the kid
          obtain ⟨A', hA'⟩ : ∃ A' : List StepT, A' = A ++ ⟨1, (g : Int), (prvKids F W g R.length A.length (R.length + 1)).2⟩ :: (prvKids F W g R.length A.length r).1 := ⟨_, rfl⟩
          have hA'l : A'.length = A.length + 1 + (prvKids F W g R.length A.length r).1.length := by rw [hA']; simp; omega
          have hgW : g < W.length := by omega
          have hdec : dec (ix (W.set g (if r = R.length then -1 else (r : Int)))) (g + 1) = dec (ix W) g ++ [((g : Int), if r = R.length then -1 else (r : Int))] := by
            rw [dec_succ, dec_congr _ (ix W) g (fun i hi => by rw [ix_setC _ _ _ _ hgW, if_neg (by omega)]), ix_setC _ _ _ _ hgW, if_pos rfl]
          have i := ih (g + 1) (W.set g (if r = R.length then -1 else (r : Int))) A' (X ++ B) f s (by omega) (by rw [List.length_set]; exact hW)
            (fun i hi => by
              rw [ix_setC _ _ _ _ hgW]
              split
              · split <;> omega
              · exact hW1 i (by omega))
            (fun i h1 h2 => by rw [ix_setC _ _ _ _ hgW, if_neg (by omega)]; exact hW2 i (by omega) h2)
            (by rw [hgo, hT, hA'l, hX, hA']; simp)
            (by rw [hgo, hA'l]; simp only [List.length_cons] at hf; omega) hsl (fun q hq => hsq q (by omega))
            (by
              rw [hdec]
              intro used hu hr2 hb2
              rw [roomS_push, roomF] at hr2 hb2 ⊢
              rw [valS_push, valF]
              dsimp only at hr2 hb2 ⊢
              obtain ⟨used0, hu0⟩ := used_exists R.length (dec (ix W) g)
              by_cases hrn : r = R.length
              · rw [if_pos hrn] at hr2 hb2 hu ⊢
                rw [if_neg (by omega)] at hr2 hb2 ⊢
                rw [if_neg (by omega)]
                have hu' : UsedOk R.length (dec (ix W) g) used := by
                  refine ⟨hu.1, fun q hq => ?_⟩
                  rw [hu.2 q hq]
                  constructor
                  · rintro ⟨p, hp, hpr⟩
                    rcases List.mem_append.mp hp with hp | hp
                    · exact ⟨p, hp, hpr⟩
                    · rw [List.mem_singleton.mp hp] at hpr; dsimp only at hpr; omega
                  · rintro ⟨p, hp, hpr⟩; exact ⟨p, by simp [hp], hpr⟩
                have l := bestLoop_out (go := bestF single G k (g + 1)) (s := gs G g) (v := gv G g) (left := roomS R G (dec (ix W) g)) (used := used) (out := bestF single G k (g + 1) (roomS R G (dec (ix W) g)) used) (roomS R G (dec (ix W) g)).length
                have m := hmost used hu' hroom (by rw [bestF]; omega)
                rw [bestF] at m
                omega
              · have hrl : r < R.length := by omega
                rw [if_neg hrn] at hr2 hb2 hu ⊢
                rw [if_pos (by omega)] at hr2 hb2 ⊢
                rw [if_pos (by omega)]
                simp only [Int.toNat_natCast] at hr2 hb2 ⊢
                have hfit := hr2 r hrl
                rw [ix_set _ _ _ _ (by rw [roomS_len]; exact hrl), if_pos rfl] at hfit
                have hueq : used = used0.set r true := by
                  have h2 := hu0.sit (g : Int) r hrl
                  apply List.ext_getElem (by rw [hu.1, h2.1])
                  intro q h3 h4
                  have b1 := hu.2 q (by rw [← hu.1]; exact h3)
                  have b2 := h2.2 q (by rw [← h2.1]; exact h4)
                  have b3 := b1.trans b2.symm
                  have g1 : bx used q = used[q] := by simp [bx, List.getD, h3]
                  have g2 : bx (used0.set r true) q = (used0.set r true)[q] := by simp only [bx, List.getD, List.getElem?_eq_getElem h4]; rfl
                  rw [g1, g2] at b3
                  exact Bool.eq_iff_iff.mpr b3
                subst hueq
                have l := bestLoop_at (go := bestF single G k (g + 1)) (s := gs G g) (v := gv G g) (left := roomS R G (dec (ix W) g)) (used := used0) (out := bestF single G k (g + 1) (roomS R G (dec (ix W) g)) used0) r (by omega) hb2 (roomS R G (dec (ix W) g)).length (by rw [roomS_len]; exact hrl)
                have hgv := hv g (by omega)
                have : 0 ≤ gs G g * gv G g := Int.mul_nonneg (by omega) (by omega)
                have m := hmost used0 hu0 hroom (by rw [bestF]; omega)
                rw [bestF] at m
                omega)
          rw [hgo, hdec, hA'l] at i
          rw [if_pos i.1]
          have hnext : (prvKids F W g R.length A.length (r + 1)).1.length = (prvKids F W g R.length A.length r).1.length + (F (W.set g (if r = R.length then -1 else (r : Int))) (A.length + 1 + (prvKids F W g R.length A.length r).1.length)).length := by
            rw [prvKids]; simp
          exact ihj (r + 1) _ (by omega) i.2.1 (fun q hq => i.2.2 q (by omega))
      have hk0 := hkids (R.length + 1) 0 (seen.set A.length true) (by omega) (by rw [List.length_set]; exact hs) (fun q hq => hset q (by simpa [prvKids] using hq))
      rw [List.drop_zero] at hk0
      exact ⟨hk0.1, hk0.2.1, fun j hj => hk0.2.2 j (by simp only [List.length_cons] at hj; omega)⟩
end

/-- The statement's plain law. -/
theorem exact_law {single : Bool} {R : List Int} {G S : List (Int × Int)} {V : Int} (h : LegalP single R G S V) (hn : R.length ≤ 4) :
    V ≤ bestS single R G ∧ (checkS single R G V (proveL single R G) = true ↔ V = bestS single R G) ∧ ∀ T, checkS single R G V T = true → V = bestS single R G := by
  have hm := best_most h
  have hv := ((legal_iff ..).mp h).1
  have hacc : ∀ T, checkS single R G V T = true → V = bestS single R G := fun T hc => by
    obtain ⟨S', hS'⟩ := best_attained hv hm.1
    have := check_sound hS' hc
    omega
  refine ⟨hm.2, ⟨hacc _, fun e => ?_⟩, hacc⟩
  have hrep : ∀ i, i < G.length → ix (List.replicate G.length (-2)) i = -2 := fun i hi => by simp [ix, List.getD, hi]
  have r := prv_right (single := single) (R := R) (G := G) (most := V) (T := proveL single R G) (validS_parts hv).2.2 hn G.length 0 (List.replicate G.length (-2)) [] [] (proveL single R G).length (List.replicate (proveL single R G).length false)
    (by omega) (by simp) (fun i hi => by omega) (fun i _ hi => hrep i hi) (by unfold proveL; simp) (Nat.le_refl _) (by simp) (fun j _ => bx_rep _ _) (fun used hu _ hb => ?_)
  · exact r.1
  · have e0 : valS G (dec (ix (List.replicate G.length (-2))) 0) = 0 := rfl
    have e1 : roomS R G (dec (ix (List.replicate G.length (-2))) 0) = R := rfl
    rw [e0, e1]
    have hue : used = List.replicate R.length false := by
      apply List.ext_getElem (by rw [hu.1]; simp)
      intro q h3 h4
      have b1 := hu.2 q (by rw [← hu.1]; exact h3)
      have g1 : bx used q = used[q] := by simp [bx, List.getD, h3]
      rw [g1] at b1
      rw [List.getElem_replicate]
      cases hq : used[q] with
      | false => rfl
      | true =>
        obtain ⟨p, hp, _⟩ := b1.mp hq
        simp [dec] at hp
    rw [hue, Int.zero_add]
    exact Int.le_of_eq e.symm
end Go.Proofs.Ytaomlhhlefpdeaa
