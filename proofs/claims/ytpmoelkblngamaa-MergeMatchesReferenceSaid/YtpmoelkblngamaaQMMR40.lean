/- merge: foyerref38.find, since: the walks. -/
import Derived.Test.YtpmoelkblngamaaQMMR21
import Derived.Test.YtpmoelkblngamaaQMMR31
import Derived.Test.YtpmoelkblngamaaQMMR34

namespace Go.Proofs.Ytpmoelkblngamaa
open Go.RowKit Go.IntWalk Go.Maps Go.WideMaps

def hitB (g nu : Int) (s : Scn) : Bool := decide (s.gate = g) && decide (s.number = nu)

/-- The place of the first scan of a gate with a number, or -1. -/
def findS (l : List Scn) (g nu : Int) : Int := match l.findIdx? (hitB g nu) with
  | some i => i
  | none => -1

theorem find_none {l : List Scn} {g nu : Int} (h : ∀ j (hj : j < l.length), hitB g nu l[j] = false) : findS l g nu = -1 := by
  unfold findS
  have : l.findIdx? (hitB g nu) = none := by
    rw [List.findIdx?_eq_none_iff]
    intro x hx
    obtain ⟨j, hj, rfl⟩ := List.getElem_of_mem hx
    exact h j hj
  rw [this]
theorem find_at {l : List Scn} {g nu : Int} {i : Nat} (hi : i < l.length) (h1 : hitB g nu l[i] = true) (h : ∀ j (hj : j < i), hitB g nu (l[j]'(by omega)) = false) : findS l g nu = i := by
  unfold findS
  have : l.findIdx? (hitB g nu) = some i := by
    rw [List.findIdx?_eq_some_iff_getElem]
    exact ⟨hi, h1, fun j hj => by rw [h j hj]; decide⟩
  rw [this]

set_option maxRecDepth 10000 in
set_option maxHeartbeats 1600000 in
theorem find_any (ra : Option Addr) (n c : Nat) (l : List Scn) (g nu : Int) (w : World) (h : Recs ScnE w ra n l) (hn : n ≤ 1000000) :
    Calls Try.prog 44 #[.slice ra n c, .int .i64 g, .int .i64 nu] w fun e w' => e = .returned (.int .i64 (findS l g nu)) ∧ w = w' := by
  obtain rfl : l.length = n := h.1
  have HL := Lib.hid h
  clear h
  go_enter Try.func44, Try.ntmps44
  go_wp2_with fail
  go_loopw [7] (fun v7 wr => ∃ i : Nat, v7 = .int .i64 i ∧ i ≤ l.length ∧ w = wr ∧ Hid (∀ j (hj : j < l.length), j < i → hitB g nu l[j] = false)) (fun v7 _ => l.length - (intOf v7).toNat)
  case atStart => exact ⟨0, rfl, Nat.zero_le _, rfl, fun j hj h => by omega⟩
  case round =>
    obtain ⟨i, rfl, hi, rfl, HW⟩ := hrel
    by_cases hlt : i < l.length
    · obtain ⟨b1, o1, rfl, c0, c1, _⟩ := scn_at HL.out i hlt hlt
      have HF : Hid (hitB g nu l[i] = true → findS l g nu = i) := fun h1 => find_at hlt h1 fun j hj => HW.out j (by omega) hj
      have HN : Hid (hitB g nu l[i] = false → ∀ j (hj : j < l.length), j < i + 1 → hitB g nu l[j] = false) := fun h1 j hj hji => by
        by_cases e : j = i
        · subst e; exact h1
        · exact HW.out j hj (by omega)
      generalize l[i] = x at *
      clear HW
      by_cases h1 : x.gate = g
      · have hb1 : (x.gate == g) = true := by simp [h1]
        by_cases h2 : x.number = nu
        · have hb2 : (x.number == nu) = true := by simp [h2]
          have HR := Lib.hid (HF.out (by unfold hitB; simp [h1, h2]))
          clear h1 h2
          go_wp2_with fail
          go_ret
          exact ⟨by rw [HR.out]; rfl, rfl⟩
        · have hb2 : (x.number == nu) = false := by simp [h2]
          have HR := Lib.hid (HN.out (by unfold hitB; simp [h1, h2]))
          clear h1 h2
          go_wp2_with fail
          refine ⟨⟨i + 1, by go_num, hlt, trivial, HR.out⟩, by simp [intOf]; omega⟩
      · have hb1 : (x.gate == g) = false := by simp [h1]
        have HR := Lib.hid (HN.out (by unfold hitB; simp [h1]))
        clear h1
        go_wp2_with fail
        refine ⟨⟨i + 1, by go_num, hlt, trivial, HR.out⟩, by simp [intOf]; omega⟩
    · have HR : Hid (findS l g nu = -1) := find_none fun j hj => HW.out j hj (by omega)
      go_wp2_with fail
      go_ret
      exact ⟨by rw [HR.out]; rfl, rfl⟩

/-- Since when a title is revoked, 0 if it is not, or not at a time. -/
def sinceG (gone : List GoneT) (k : Int) : Int := if 1 ≤ sinceS gone k ∧ sinceS gone k ≤ 1000000000 then sinceS gone k else 0

theorem since_at {G : List GoneT} {k : Int} {i : Nat} {a b : Int} (hi : G[i]? = some (a, b)) (h1 : a = k) (h : ∀ (j : Nat), j < i → ∀ (x : GoneT), G[j]? = some x → x.1 ≠ k) : sinceS G k = b := by
  unfold sinceS
  have : G.find? (fun g => decide (g.1 = k)) = some (a, b) := by
    obtain ⟨hl, he⟩ := List.getElem?_eq_some_iff.mp hi
    rw [List.find?_eq_some_iff_append]
    refine ⟨by simpa using h1, G.take i, G.drop (i + 1), ?_, fun x hx => ?_⟩
    · rw [← he, ← List.drop_eq_getElem_cons hl, List.take_append_drop]
    · obtain ⟨j, hj, e⟩ := List.getElem_of_mem hx
      rw [List.length_take] at hj
      rw [List.getElem_take] at e
      have := h j (by omega) x (by rw [List.getElem?_eq_getElem (by omega), e])
      simpa using this
  rw [this]
  rfl
theorem since_none {G : List GoneT} {k : Int} (h : ∀ (j : Nat) (x : GoneT), G[j]? = some x → x.1 ≠ k) : sinceS G k = 0 := by
  unfold sinceS
  have : G.find? (fun g => decide (g.1 = k)) = none := by
    rw [List.find?_eq_none]
    intro x hx
    obtain ⟨j, hj, e⟩ := List.getElem_of_mem hx
    have := h j x (by rw [List.getElem?_eq_getElem hj, e])
    simpa using this
  rw [this]
  rfl

set_option maxRecDepth 10000 in
set_option maxHeartbeats 1600000 in
theorem since_any (ra : Option Addr) (n c : Nat) (l : List GoR) (k : Int) (w : World) (h : Recs GoE w ra n l) (hn : n ≤ 1000000) :
    Calls Try.prog 47 #[.slice ra n c, .int .i64 k] w fun e w' => e = .returned (.int .i64 (sinceG (goneOf l) k)) ∧ w = w' := by
  obtain rfl : l.length = n := h.1
  have HL := Lib.hid h
  clear h
  go_enter Try.func47, Try.ntmps47
  go_wp2_with fail
  go_loopw [5] (fun v5 wr => ∃ i : Nat, v5 = .int .i64 i ∧ i ≤ l.length ∧ w = wr ∧ Hid (∀ (j : Nat), j < i → ∀ (x : GoneT), (goneOf l)[j]? = some x → x.1 ≠ k)) (fun v5 _ => l.length - (intOf v5).toNat)
  case atStart => exact ⟨0, rfl, Nat.zero_le _, rfl, fun j hj => by omega⟩
  case round =>
    obtain ⟨i, rfl, hi, rfl, HW⟩ := hrel
    by_cases hlt : i < l.length
    · obtain ⟨b1, o1, rfl, f0, _, _, _, _, _, _, _, _, f9, _⟩ := go_at HL.out i hlt (List.getElem?_eq_getElem hlt)
      have HGI : Hid ((goneOf l)[i]? = some (l[i].serial, l[i].gone)) := by
        show _ = _
        unfold goneOf
        rw [List.getElem?_map, List.getElem?_eq_getElem hlt]
        rfl
      have HS : Hid (l[i].serial = k → sinceS (goneOf l) k = l[i].gone) := fun h1 => since_at HGI.out h1 HW.out
      have HN : Hid (l[i].serial ≠ k → ∀ (j : Nat), j < i + 1 → ∀ (x : GoneT), (goneOf l)[j]? = some x → x.1 ≠ k) := fun h1 j hj x hx => by
        by_cases e : j = i
        · subst e
          rw [HGI.out] at hx
          cases hx
          exact h1
        · exact HW.out j (by omega) x hx
      generalize l[i].serial = gs at *
      generalize l[i].gone = gg at *
      clear HW HGI
      by_cases h1 : gs = k
      · have hb1 : (gs == k) = true := by simp [h1]
        have HR := Lib.hid (HS.out h1)
        clear h1
        by_cases h2 : gg < 1
        · have HR2 : Hid (sinceG (goneOf l) k = 0) := by show _ = _; unfold sinceG; rw [HR.out, if_neg (by omega)]
          have hb2 : decide (gg < 1) = true := decide_eq_true h2
          go_wp2_with fail
          go_ret
          exact ⟨by rw [HR2.out]; rfl, rfl⟩
        · have hb2 : decide (gg < 1) = false := decide_eq_false h2
          by_cases h3 : 1000000000 < gg
          · have HR2 : Hid (sinceG (goneOf l) k = 0) := by show _ = _; unfold sinceG; rw [HR.out, if_neg (by omega)]
            have hb3 : decide (1000000000 < gg) = true := decide_eq_true h3
            go_wp2_with fail
            go_ret
            exact ⟨by rw [HR2.out]; rfl, rfl⟩
          · have HR2 : Hid (sinceG (goneOf l) k = gg) := by show _ = _; unfold sinceG; rw [HR.out, if_pos (by omega)]
            have hb3 : decide (1000000000 < gg) = false := decide_eq_false h3
            go_wp2_with fail
            go_ret
            exact ⟨by rw [HR2.out]; rfl, rfl⟩
      · have hb1 : (gs == k) = false := by simp [h1]
        have HR := Lib.hid (HN.out h1)
        clear h1
        go_wp2_with fail
        refine ⟨⟨i + 1, by go_num, hlt, trivial, HR.out⟩, by simp [intOf]; omega⟩
    · have HR : Hid (sinceG (goneOf l) k = 0) := by
        have h0 := since_none (G := goneOf l) (k := k) fun j x hx => HW.out j (by
          have := (List.getElem?_eq_some_iff.mp hx).1
          unfold goneOf at this
          rw [List.length_map] at this
          omega) x hx
        show _ = _
        unfold sinceG
        rw [h0, if_neg (by omega)]
      go_wp2_with fail
      go_ret
      exact ⟨by rw [HR.out]; rfl, rfl⟩
end Go.Proofs.Ytpmoelkblngamaa
