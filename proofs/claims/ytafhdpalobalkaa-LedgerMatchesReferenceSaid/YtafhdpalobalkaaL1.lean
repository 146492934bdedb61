/- ledger: names, the walks of ledger.name and foyerref18.Name. -/
import Derived.Test.YtafhdpalobalkaaProg
import Derived.Test.YtafhdpalobalkaaRow
import Derived.Test.YtafhdpalobalkaaBs
import Derived.Test.YtafhdpalobalkaaL0
import Derived.IntWalk
import Derived.Deep.DeepCutAuto
namespace Go.Proofs.Ytafhdpalobalkaa
open Go.RowKit Go.IntWalk

def byte (t : Name) (i : Nat) : Nat := (t.getD i 0).toNat

theorem byte_le (t : Name) (i : Nat) : byte t i ≤ 255 := by unfold byte; have := (t.getD i 0).toNat_lt; omega

theorem byte_get {t : Name} {j : Nat} (h : j < t.length) (h' : j < (bs t).size) : ((bs t)[j]'h').toNat = byte t j := by
  unfold byte
  rw [List.getD_eq_getElem?_getD, List.getElem?_eq_getElem h]
  rfl

def ltr (c : Nat) : Bool := (decide (97 ≤ c) && decide (c ≤ 122)) || (decide (65 ≤ c) && decide (c ≤ 90))
def dgt (c : Nat) : Bool := decide (48 ≤ c) && decide (c ≤ 57)
def dgu (c : Nat) : Bool := dgt c || decide (c = 95)

/-- What may stand at a place of a name. -/
def okN (t : Name) (i : Nat) : Bool := ltr (byte t i) || (!decide (i = 0) && dgu (byte t i))

/-- A text is a name. -/
def nameS (t : Name) : Bool := (List.range t.length).all (okN t) && (decide (1 ≤ t.length) && decide (t.length ≤ 24))

theorem nameS_no {t : Name} {i : Nat} (hi : i < t.length) (h : okN t i = false) : nameS t = false := by
  cases hh : nameS t
  · rfl
  · unfold nameS at hh
    rw [Bool.and_eq_true, List.all_eq_true] at hh
    have := hh.1 i (List.mem_range.mpr hi)
    rw [h] at this
    simp at this

theorem nameS_end {t : Name} (h : ∀ i, i < t.length → okN t i = true) : nameS t = (decide (1 ≤ t.length) && decide (t.length ≤ 24)) := by
  unfold nameS
  rw [show (List.range t.length).all (okN t) = true from by rw [List.all_eq_true]; intro i hi; exact h i (List.mem_range.mp hi)]
  rfl

/-- The classes of bytes. -/
theorem classes (c : Nat) : c < 48 ∨ (48 ≤ c ∧ c ≤ 57) ∨ (57 < c ∧ c < 65) ∨ (65 ≤ c ∧ c ≤ 90) ∨ (90 < c ∧ c < 95) ∨ c = 95 ∨ c = 96 ∨ (97 ≤ c ∧ c ≤ 122) ∨ 122 < c := by omega

structure Tests (c : Nat) (a1 a2 b1 b2 d1 d2 u : Bool) : Prop where
  a1 : decide ((97 : Int) ≤ c) = a1
  a2 : decide ((c : Int) ≤ 122) = a2
  b1 : decide ((65 : Int) ≤ c) = b1
  b2 : decide ((c : Int) ≤ 90) = b2
  d1 : decide ((48 : Int) ≤ c) = d1
  d2 : decide ((c : Int) ≤ 57) = d2
  u : ((c : Int) == 95) = u

theorem tests (c : Nat) : ∃ a1 a2 b1 b2 d1 d2 u, Tests c a1 a2 b1 b2 d1 d2 u ∧ ltr c = ((a1 && a2) || (b1 && b2)) ∧ dgt c = (d1 && d2) ∧ dgu c = ((d1 && d2) || u) := by
  refine ⟨_, _, _, _, _, _, _, ⟨rfl, rfl, rfl, rfl, rfl, rfl, rfl⟩, ?_, ?_, ?_⟩
  · unfold ltr
    have h1 : ((97 : Int) ≤ c) = (97 ≤ c) := by apply propext; omega
    have h2 : ((c : Int) ≤ 122) = (c ≤ 122) := by apply propext; omega
    have h3 : ((65 : Int) ≤ c) = (65 ≤ c) := by apply propext; omega
    have h4 : ((c : Int) ≤ 90) = (c ≤ 90) := by apply propext; omega
    simp only [h1, h2, h3, h4]
  · unfold dgt
    have h1 : ((48 : Int) ≤ c) = (48 ≤ c) := by apply propext; omega
    have h2 : ((c : Int) ≤ 57) = (c ≤ 57) := by apply propext; omega
    simp only [h1, h2]
  · unfold dgu dgt
    have h1 : ((48 : Int) ≤ c) = (48 ≤ c) := by apply propext; omega
    have h2 : ((c : Int) ≤ 57) = (c ≤ 57) := by apply propext; omega
    have h3 : ((c : Int) == 95) = decide (c = 95) := by
      by_cases h : c = 95
      · subst h; rfl
      · have : ((c : Int) == 95) = false := by simp; omega
        rw [this]; simp [h]
    simp only [h1, h2, h3]

set_option maxRecDepth 10000 in
set_option maxHeartbeats 1600000 in
theorem rname_any (t : Name) (hlen : t.length ≤ 9223372036854775807) (w : World) : Calls Try.prog 54 #[.string (bs t)] w fun e w' => e = .returned (.bool (nameS t)) ∧ w = w' := by
  have hbs := bs_size t
  go_enter Try.func54, Try.ntmps54
  go_wp2_with fail
  go_loopw [3] (fun v3 wr => ∃ i : Nat, v3 = .int .i64 i ∧ w = wr ∧ i ≤ t.length ∧ Hid (∀ k, k < i → okN t k = true)) (fun v3 _ => t.length - (intOf v3).toNat)
  case atStart => exact ⟨0, rfl, rfl, Nat.zero_le _, fun k hk => by omega⟩
  case round =>
    obtain ⟨i, rfl, rfl, hi, HW⟩ := hrel
    by_cases hlt : i < t.length
    · have hjs : i < (bs t).size := by rw [bs_size]; exact hlt
      have HB := Lib.hid (byte_get hlt hjs)
      obtain ⟨c, hc⟩ : ∃ c : Nat, ((bs t)[i]'hjs).toNat = c := ⟨_, rfl⟩
      have HC := Lib.hid (HB.out.symm.trans hc)
      have hc255 : c ≤ 255 := by rw [← HC.out]; exact byte_le t i
      have HOK : Hid (okN t i = (ltr c || (!decide (i = 0) && dgu c))) := by show _ = _; unfold okN; rw [HC.out]
      obtain ⟨a1, a2, b1, b2, d1, d2, u, hT, hL, hD, hU⟩ := tests c
      have HT := Lib.hid hT
      have HL := Lib.hid hL
      have HD := Lib.hid hD
      have HU := Lib.hid hU
      clear hT hL hD hU
      go_upto_region 5 with fail
      go_cut [5] (fun v5 wx => v5 = .bool (ltr c) ∧ w = wx)
      case first =>
        have t1 := HT.out.a1
        have t2 := HT.out.a2
        have t3 := HT.out.b1
        have t4 := HT.out.b2
        cases a1 <;> cases a2 <;> cases b1
        all_goals
          go_wp2_with fail
          go_meet
          case rel => exact ⟨by rw [HL.out]; simp, rfl⟩
      case rest =>
        obtain ⟨rfl, rfl⟩ := hcut
        go_upto_region 6 with fail
        go_cut [6] (fun v6 wx => v6 = .bool (dgt c) ∧ w = wx)
        case first =>
          have t1 := HT.out.d1
          have t2 := HT.out.d2
          cases d1
          all_goals
            go_wp2_with fail
            go_meet
            case rel => exact ⟨by rw [HD.out]; simp, rfl⟩
        case rest =>
          obtain ⟨rfl, rfl⟩ := hcut
          have t5 := HT.out.u
          rw [← HD.out] at HU
          cases hl : ltr c
          · rw [hl] at HOK
            by_cases h0 : i = 0
            · have hz : ((i : Int) == 0) = true := by simp [h0]
              have HR := Lib.hid (nameS_no hlt (by rw [HOK.out]; simp [h0]))
              clear hl h0
              go_wp2_with fail
              go_ret
              exact ⟨by rw [HR.out]; rfl, rfl⟩
            · have hz : ((i : Int) == 0) = false := by simp; omega
              have HI : Hid (decide (i = 0) = false) := by show _ = _; simp [h0]
              cases hd : dgt c
              · cases u
                · have HR := Lib.hid (nameS_no hlt (by rw [HOK.out, HU.out, hd]; simp))
                  clear hl h0
                  go_wp2_with fail
                  go_ret
                  exact ⟨by rw [HR.out]; rfl, rfl⟩
                · have HR : Hid (okN t i = true) := by show _ = _; rw [HOK.out, HU.out, HI.out]; simp
                  clear hl h0
                  go_wp2_with fail
                  go_roundw
                  case rel => exact ⟨i + 1, by go_num, trivial, hlt, fun k hk => by
                    by_cases e : k = i
                    · rw [e]; exact HR.out
                    · exact HW.out k (by omega)⟩
                  case measure => simp [intOf]; omega
              · have HR : Hid (okN t i = true) := by show _ = _; rw [HOK.out, HU.out, HI.out, hd]; simp
                clear hl h0
                go_wp2_with fail
                go_roundw
                case rel => exact ⟨i + 1, by go_num, trivial, hlt, fun k hk => by
                  by_cases e : k = i
                  · rw [e]; exact HR.out
                  · exact HW.out k (by omega)⟩
                case measure => simp [intOf]; omega
          · have HR : Hid (okN t i = true) := by show _ = _; rw [HOK.out, hl]; simp
            go_wp2_with fail
            go_roundw
            case rel => exact ⟨i + 1, by go_num, trivial, hlt, fun k hk => by
              by_cases e : k = i
              · rw [e]; exact HR.out
              · exact HW.out k (by omega)⟩
            case measure => simp [intOf]; omega
    · have hi' : i = t.length := by omega
      have HR := Lib.hid (nameS_end (t := t) (fun k hk => HW.out k (by omega)))
      by_cases h1 : 1 ≤ t.length
      · have e1 : decide (1 ≤ t.length) = true := by simp; omega
        rw [e1] at HR
        have e2 : decide ((1 : Int) ≤ t.length) = true := by simp; omega
        by_cases h2 : t.length ≤ 24
        · have e3 : decide (t.length ≤ 24) = true := by simp; omega
          rw [e3] at HR
          have e4 : decide ((t.length : Int) ≤ 24) = true := by simp; omega
          clear e1 e3
          subst hi'
          go_wp2_with fail
          go_ret
          exact ⟨by rw [HR.out]; rfl, rfl⟩
        · have e3 : decide (t.length ≤ 24) = false := by simp; omega
          rw [e3] at HR
          have e4 : decide ((t.length : Int) ≤ 24) = false := by simp; omega
          clear e1 e3
          subst hi'
          go_wp2_with fail
          go_ret
          exact ⟨by rw [HR.out]; rfl, rfl⟩
      · have e1 : decide (1 ≤ t.length) = false := by rw [decide_eq_false_iff_not]; omega
        rw [e1] at HR
        have e2 : decide ((1 : Int) ≤ t.length) = false := by rw [decide_eq_false_iff_not]; omega
        clear e1
        subst hi'
        go_wp2_with fail
        go_ret
        exact ⟨by rw [HR.out]; rfl, rfl⟩

set_option maxRecDepth 10000 in
set_option maxHeartbeats 1600000 in
theorem lname_any (t : Name) (hlen : t.length ≤ 9223372036854775807) (w : World) : Calls Try.prog 56 #[.string (bs t)] w fun e w' => e = .returned (.bool (nameS t)) ∧ w = w' := by
  have hbs := bs_size t
  go_enter Try.func56, Try.ntmps56
  go_wp2_with fail
  go_loopw [9] (fun v9 wr => ∃ i : Nat, v9 = .int .i64 i ∧ w = wr ∧ i ≤ t.length ∧ Hid (∀ k, k < i → okN t k = true)) (fun v9 _ => t.length - (intOf v9).toNat)
  case atStart => exact ⟨0, rfl, rfl, Nat.zero_le _, fun k hk => by omega⟩
  case round =>
    obtain ⟨i, rfl, rfl, hi, HW⟩ := hrel
    by_cases hlt : i < t.length
    · have hjs : i < (bs t).size := by rw [bs_size]; exact hlt
      have HB := Lib.hid (byte_get hlt hjs)
      obtain ⟨c, hc⟩ : ∃ c : Nat, ((bs t)[i]'hjs).toNat = c := ⟨_, rfl⟩
      have HC := Lib.hid (HB.out.symm.trans hc)
      have hc255 : c ≤ 255 := by rw [← HC.out]; exact byte_le t i
      have HOK : Hid (okN t i = (ltr c || (!decide (i = 0) && dgu c))) := by show _ = _; unfold okN; rw [HC.out]
      obtain ⟨a1, a2, b1, b2, d1, d2, u, hT, hL, hD, hU⟩ := tests c
      have HT := Lib.hid hT
      have HL := Lib.hid hL
      have HU := Lib.hid hU
      clear hT hL hD hU
      go_upto_region 5 with fail
      go_cut [5, 6] (fun v5 v6 wx => v5 = .bool (ltr c) ∧ v6 = .bool (dgu c) ∧ w = wx)
      case first =>
        have t1 := HT.out.a1
        have t2 := HT.out.a2
        have t3 := HT.out.b1
        have t4 := HT.out.b2
        have t5 := HT.out.d1
        have t6 := HT.out.d2
        have t7 := HT.out.u
        cases a1 <;> cases a2 <;> cases b1 <;> cases d1 <;> cases d2
        all_goals
          go_wp2_with fail
          go_meet
          case rel => exact ⟨by rw [HL.out]; simp, by rw [HU.out]; simp, rfl⟩
      case rest =>
        obtain ⟨rfl, rfl, rfl⟩ := hcut
        cases hl : ltr c
        · rw [hl] at HOK
          by_cases h0 : i = 0
          · have hz : ((i : Int) == 0) = true := by simp [h0]
            have HR := Lib.hid (nameS_no hlt (by rw [HOK.out]; simp [h0]))
            clear hl h0
            go_wp2_with fail
            go_ret
            exact ⟨by rw [HR.out]; rfl, rfl⟩
          · have hz : ((i : Int) == 0) = false := by simp; omega
            have HI : Hid (decide (i = 0) = false) := by show _ = _; simp [h0]
            cases hd : dgu c
            · have HR := Lib.hid (nameS_no hlt (by rw [HOK.out, hd]; simp))
              clear hl h0 hd
              go_wp2_with fail
              go_ret
              exact ⟨by rw [HR.out]; rfl, rfl⟩
            · have HR : Hid (okN t i = true) := by show _ = _; rw [HOK.out, HI.out, hd]; simp
              clear hl h0 hd
              go_wp2_with fail
              go_roundw
              case rel => exact ⟨i + 1, by go_num, trivial, hlt, fun k hk => by
                by_cases e : k = i
                · rw [e]; exact HR.out
                · exact HW.out k (by omega)⟩
              case measure => simp [intOf]; omega
        · have HR : Hid (okN t i = true) := by show _ = _; rw [HOK.out, hl]; simp
          go_wp2_with fail
          go_roundw
          case rel => exact ⟨i + 1, by go_num, trivial, hlt, fun k hk => by
            by_cases e : k = i
            · rw [e]; exact HR.out
            · exact HW.out k (by omega)⟩
          case measure => simp [intOf]; omega
    · have hi' : i = t.length := by omega
      have HR := Lib.hid (nameS_end (t := t) (fun k hk => HW.out k (by omega)))
      by_cases h1 : 1 ≤ t.length
      · have e1 : decide (1 ≤ t.length) = true := by simp; omega
        rw [e1] at HR
        have e2 : (bs t).toList.isEmpty = false := by rw [bs_toList]; cases t with | nil => simp at h1 | cons _ _ => rfl
        by_cases h2 : t.length ≤ 24
        · have e3 : decide (t.length ≤ 24) = true := by simp; omega
          rw [e3] at HR
          have e4 : decide ((t.length : Int) ≤ 24) = true := by simp; omega
          clear e1 e3
          subst hi'
          go_wp2_with fail
          go_ret
          exact ⟨by rw [HR.out]; rfl, rfl⟩
        · have e3 : decide (t.length ≤ 24) = false := by simp; omega
          rw [e3] at HR
          have e4 : decide ((t.length : Int) ≤ 24) = false := by simp; omega
          clear e1 e3
          subst hi'
          go_wp2_with fail
          go_ret
          exact ⟨by rw [HR.out]; rfl, rfl⟩
      · have e1 : decide (1 ≤ t.length) = false := by rw [decide_eq_false_iff_not]; omega
        rw [e1] at HR
        have e2 : (bs t).toList.isEmpty = true := by rw [bs_toList]; cases t with | nil => rfl | cons _ _ => simp at h1
        clear e1
        subst hi'
        go_wp2_with fail
        go_ret
        exact ⟨by rw [HR.out]; rfl, rfl⟩
end Go.Proofs.Ytafhdpalobalkaa
