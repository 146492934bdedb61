/- lexer.classes: the walk. -/
import Derived.Test.YtkdbenoleendcaaGreatDoorQHMB00
import Derived.Test.YtkdbenoleendcaaGreatDoorQHMB03
import Derived.Laws.Rows
import Derived.Laws.Tables
import Derived.Laws.CopyOwn
import Derived.Lib.SmallJoins
import Derived.Lib.Bytealg

namespace Go.Proofs.YtkdbenoleendcaaGreatDoor
open Go.RowKit Go.IntWalk

/-- The class of a byte. -/
def clsB (c : Nat) : Int :=
  if 97 ≤ c ∧ c ≤ 122 then 3 else if 65 ≤ c ∧ c ≤ 90 then 3 else if 48 ≤ c ∧ c ≤ 57 then 4 else if 0 ≤ Lib.indexByte [32, 9, 10] c.toUInt8 then 1
  else if 0 ≤ Lib.indexByte [59, 44, 46, 58, 40, 41, 123, 125, 61, 43, 45, 47] c.toUInt8 then 6 else if c = 60 then 7 else if c = 62 then 7 else 0

def cls (c : Nat) : Int := if c = 33 then 8 else if c = 95 then 5 else if c = 35 then 2 else clsB c

def ltr (c : Nat) : Bool := decide (97 ≤ c ∧ c ≤ 122) || decide (65 ≤ c ∧ c ≤ 90)
def dgt (c : Nat) : Bool := decide (48 ≤ c ∧ c ≤ 57)

theorem cls_range (c : Nat) : 0 ≤ cls c ∧ cls c ≤ 8 := by
  unfold cls clsB
  split
  · omega
  split
  · omega
  split
  · omega
  repeat (first | (split; · omega) | omega)

theorem cls_ltr (c : Nat) : cls c = 3 ↔ ltr c = true := by
  unfold cls clsB ltr
  simp only [Bool.or_eq_true, decide_eq_true_eq]
  constructor
  · intro h
    repeat (first | (split at h; · omega) | omega)
  · intro h
    rw [if_neg (by omega), if_neg (by omega), if_neg (by omega)]
    rcases h with h | h
    · rw [if_pos h]
    · rw [if_neg (by omega), if_pos h]

theorem cls_dgt (c : Nat) : cls c = 4 ↔ dgt c = true := by
  unfold cls clsB dgt
  simp only [decide_eq_true_eq]
  constructor
  · intro h
    repeat (first | (split at h; · omega) | omega)
  · intro h
    rw [if_neg (by omega), if_neg (by omega), if_neg (by omega), if_neg (by omega), if_neg (by omega), if_pos h]

theorem cls_und (c : Nat) : cls c = 5 ↔ c = 95 := by
  unfold cls clsB
  constructor
  · intro h
    repeat (first | (split at h; · omega) | omega)
  · intro h
    rw [if_neg (by omega), if_pos h]

/-- A block that holds bytes. -/
def ByRow (w : World) (g : Nat) (T : TypeId) (n : Nat) (f : Nat → Int) : Prop :=
  ∃ arr : Array Value, w.heap[g]? = some (.cells arr T (0, 0)) ∧ arr.size = n ∧ ∀ k, k < n → arr[k]? = some (.int .u8 (f k))

theorem ByRow.cell {w : World} {g n : Nat} {T : TypeId} {f : Nat → Int} (h : ByRow w g T n f) (k : Nat) (hk : k < n) : w.cell? ⟨g, k, none⟩ = some (.int .u8 (f k)) := by
  obtain ⟨arr, e, _, c⟩ := h
  simp only [World.cell?, e]
  exact c k hk

theorem ByRow.free {w : World} {g n : Nat} {T : TypeId} {f : Nat → Int} (h : ByRow w g T n f) (k : Nat) : w.frozen? ⟨g, k, none⟩ = false := by
  obtain ⟨arr, e, _, c⟩ := h
  simp only [World.frozen?, e]
  simp

theorem ByRow.set {w : World} {g n : Nat} {T : TypeId} {f : Nat → Int} (h : ByRow w g T n f) (i : Nat) (v : Int) : ByRow (w.setCell ⟨g, i, none⟩ (.int .u8 v)) g T n (fun k => if k = i then v else f k) := by
  obtain ⟨arr, e, s, c⟩ := h
  refine ⟨arr.setIfInBounds i (.int .u8 v), ?_, by simpa using s, fun k hk => ?_⟩
  · simp [World.setCell, Array.getElem?_modify, e]
  · rw [Array.getElem?_setIfInBounds]
    by_cases hik : i = k
    · rw [if_pos hik, if_pos (by omega)]; dsimp only; rw [if_pos hik.symm]
    · rw [if_neg hik]; dsimp only; rw [if_neg (fun e => hik e.symm)]; exact c k hk

theorem ByRow.below {w w' : World} {g n : Nat} {T : TypeId} {f : Nat → Int} (h : ByRow w g T n f) (hb : Below w.heap.size w w') : ByRow w' g T n f := by
  obtain ⟨arr, e, r⟩ := h
  exact ⟨arr, (hb.block g (lt_of_block e)).trans e, r⟩

theorem ByRow.agg {w : World} {g n : Nat} {T : TypeId} {f : Nat → Int} (h : ByRow w g T n f) : ∃ arr : Array Value, w.heap[g]? = some (.cells arr T (0, 0)) ∧ arr.size = n ∧ arr.all (·.oneCell') = true ∧ ∀ k, k < n → arr[k]? = some (.int .u8 (f k)) := by
  obtain ⟨arr, e, s, c⟩ := h
  refine ⟨arr, e, s, ?_, c⟩
  rw [Array.all_eq_true]
  intro i hi
  have := c i (by omega)
  rw [Array.getElem?_eq_getElem hi] at this
  rw [Option.some.inj this]
  rfl

theorem zero256 : Tryz.zeroCells106 = Array.replicate 256 (.int .u8 0) := by kernel_rfl

theorem ByRow.new {w : World} {T : TypeId} : ByRow (w.alloc (.cells Tryz.zeroCells106 T)) w.heap.size T 256 (fun _ => 0) := by
  refine ⟨Tryz.zeroCells106, ?_, by rw [zero256]; simp, fun k hk => by rw [zero256]; simp [hk]⟩
  show (w.heap.push _)[w.heap.size]? = _
  simp

theorem indexByte_any (s : ByteArray) (c : Int) (w : World) : Calls Tryz.prog 78 #[.string s, .int .u8 c] w fun e w' => e = .returned (.int .i64 (Lib.indexByte s.data.toList c.toNat.toUInt8)) ∧ w = w' :=
  (Tryz.strings_IndexByte s c w).mono fun _ _ ⟨h1, h2⟩ => ⟨h1, h2.symm⟩

/-- What classes returns. -/
def ClsPost (w : World) (e : Ending) (w' : World) : Prop := ∃ arr : Array Value, e = .returned (.agg arr) ∧ arr.size = 256 ∧ arr.all (·.oneCell') = true ∧ (∀ k, k < 256 → arr[k]? = some (.int .u8 (cls k))) ∧ Below w.heap.size w w'

/-- The world within classes. -/
structure BoxC (wr w : World) (f : Nat → Int) : Prop where
  below : Below w.heap.size w wr
  out : ByRow wr (w.heap.size + 1) 106 256 f
  res : ∃ arr : Array Value, wr.heap[w.heap.size]? = some (.cells arr 106 (0, 0)) ∧ arr.size = 256

theorem BoxC.put {wr w : World} {f : Nat → Int} (h : BoxC wr w f) (i : Nat) (v : Int) : BoxC (wr.setCell ⟨w.heap.size + 1, i, none⟩ (.int .u8 v)) w (fun k => if k = i then v else f k) := by
  refine ⟨h.below.setCell (by simp) _, h.out.set i v, ?_⟩
  obtain ⟨arr, e, s⟩ := h.res
  exact ⟨arr, by rw [Below.heap_setCell _ _ _ _ (by simp)]; exact e, s⟩

theorem BoxC.congr {wr w : World} {f g : Nat → Int} (h : BoxC wr w f) (e : ∀ k, k < 256 → f k = g k) : BoxC wr w g := by
  refine ⟨h.below, ?_, h.res⟩
  obtain ⟨arr, e1, s, c⟩ := h.out
  exact ⟨arr, e1, s, fun k hk => by rw [c k hk, e k hk]⟩

set_option maxRecDepth 100000 in
set_option maxHeartbeats 6400000 in
theorem classes_any (w : World) : Calls Tryz.prog 68 #[] w (ClsPost w) := by
  go_enter Tryz.func68, Tryz.ntmps68
  go_upto_region 2 with fail
  have HB : Hid (BoxC ((w.alloc (.cells Tryz.zeroCells106 106)).alloc (.cells Tryz.zeroCells106 106)) w (fun _ => 0)) := by
    refine ⟨((Below.refl _ _).alloc (Nat.le_refl _) _).alloc (by simp) _, ?_, ?_⟩
    · have h := ByRow.new (w := w.alloc (.cells Tryz.zeroCells106 106)) (T := 106)
      simpa using h
    · have h := (ByRow.new (w := w) (T := 106)).below (Joins.below_alloc1 (w.alloc (.cells Tryz.zeroCells106 106)) (.cells Tryz.zeroCells106 106))
      obtain ⟨arr, e, s, _⟩ := h
      exact ⟨arr, e, s⟩
  generalize (w.alloc (.cells Tryz.zeroCells106 106)).alloc (.cells Tryz.zeroCells106 106) = w1 at *
  go_wp2_with fail
  go_loopw [4] (fun v4 wr => ∃ i : Nat, v4 = .int .i64 i ∧ i ≤ 256 ∧ Hid (BoxC wr w (fun k => if k < i then clsB k else 0))) (fun v4 _ => 256 - (intOf v4).toNat)
  case atStart => exact ⟨0, rfl, Nat.zero_le _, HB.out.congr (fun k _ => by rw [if_neg (by omega)])⟩
  case round =>
    clear HB
    obtain ⟨i, rfl, hi, HR⟩ := hrel
    by_cases hlt : i < 256
    · have hw8 : IntKind.u8.wrap (i : Int) = i := by
        simp [IntKind.wrap, IntKind.bits, IntKind.signed]
        omega
      have x1 := HR.out.out.cell i hlt
      have xf := HR.out.out.free i
      have hz : (if i < i then clsB i else 0) = 0 := if_neg (by omega)
      rw [hz] at x1
      have HSET : Hid (∀ v, clsB i = v → BoxC (wr.setCell ⟨w.heap.size + 1, i, none⟩ (.int .u8 v)) w (fun k => if k < i + 1 then clsB k else 0)) := fun v hv => (HR.out.put i v).congr (fun k _ => by
        by_cases e : k = i
        · rw [if_pos e, e, if_pos (by omega), hv]
        · rw [if_neg e]
          by_cases h : k < i
          · rw [if_pos h, if_pos (by omega)]
          · rw [if_neg h, if_neg (by omega)])
      have HKEEP : Hid (clsB i = 0 → BoxC wr w (fun k => if k < i + 1 then clsB k else 0)) := fun hv => HR.out.congr (fun k _ => by
        by_cases h : k < i
        · rw [if_pos h, if_pos (by omega)]
        · rw [if_neg h]
          by_cases e : k = i
          · rw [e, if_pos (by omega), hv]
          · rw [if_neg (by omega)])
      clear hz
      by_cases c1 : 97 ≤ i ∧ i ≤ 122
      · have HV : Hid (clsB i = 3) := by show _ = _; unfold clsB; rw [if_pos c1]
        obtain ⟨c1a, c1b⟩ := c1
        have HN := Lib.hid (HSET.out 3 HV.out)
        clear HSET HKEEP
        go_wp2_with fail
        go_roundw
        case rel => exact ⟨i + 1, by go_num, by omega, HN⟩
        case measure => simp [intOf]; omega
      · by_cases c2 : 65 ≤ i ∧ i ≤ 90
        · have HV : Hid (clsB i = 3) := by show _ = _; unfold clsB; rw [if_neg c1, if_pos c2]
          obtain ⟨c2a, c2b⟩ := c2
          have d1 : ¬ 97 ≤ i := by omega
          clear c1
          have HN := Lib.hid (HSET.out 3 HV.out)
          clear HSET HKEEP
          go_wp2_with fail
          go_roundw
          case rel => exact ⟨i + 1, by go_num, by omega, HN⟩
          case measure => simp [intOf]; omega
        · have HC : Hid (clsB i = if 48 ≤ i ∧ i ≤ 57 then 4 else if 0 ≤ Lib.indexByte [32, 9, 10] i.toUInt8 then 1
              else if 0 ≤ Lib.indexByte [59, 44, 46, 58, 40, 41, 123, 125, 61, 43, 45, 47] i.toUInt8 then 6 else if i = 60 then 7 else if i = 62 then 7 else 0) := by show _ = _; unfold clsB; rw [if_neg c1, if_neg c2]
          have hiv : i ≤ 47 ∨ (48 ≤ i ∧ i ≤ 57) ∨ (58 ≤ i ∧ i ≤ 64) ∨ (91 ≤ i ∧ i ≤ 96) ∨ 123 ≤ i := by omega
          clear c1 c2
          rcases hiv with h | ⟨h, h'⟩ | ⟨h, h'⟩ | ⟨h, h'⟩ | h
          · rw [if_neg (by omega)] at HC
            go_wp2_with fail
            refine (indexByte_any ⟨#[32, 9, 10]⟩ i wr).mono ?_
            rintro e w' ⟨rfl, rfl⟩
            obtain ⟨r1, hr1⟩ : ∃ r, Lib.indexByte (⟨#[32, 9, 10]⟩ : ByteArray).data.toList ((i : Int).toNat.toUInt8) = r := ⟨_, rfl⟩
            have hr1' : Lib.indexByte [32, 9, 10] i.toUInt8 = r1 := hr1
            rw [hr1]
            rw [hr1'] at HC
            clear hr1 hr1'
            by_cases c3 : 0 ≤ r1
            · have HV : Hid (clsB i = 1) := by show _ = _; rw [HC.out, if_pos c3]
              have HN := Lib.hid (HSET.out 1 HV.out)
              clear HSET HKEEP HC
              go_wp2_with fail
              go_roundw
              case rel => exact ⟨i + 1, by go_num, by omega, HN⟩
              case measure => simp [intOf]; omega
            · have f1 : decide (0 ≤ r1) = false := by simp; omega
              rw [if_neg c3] at HC
              clear c3
              go_wp2_with fail
              refine (indexByte_any ⟨#[59, 44, 46, 58, 40, 41, 123, 125, 61, 43, 45, 47]⟩ i wr).mono ?_
              rintro e w' ⟨rfl, rfl⟩
              obtain ⟨r2, hr2⟩ : ∃ r, Lib.indexByte (⟨#[59, 44, 46, 58, 40, 41, 123, 125, 61, 43, 45, 47]⟩ : ByteArray).data.toList ((i : Int).toNat.toUInt8) = r := ⟨_, rfl⟩
              have hr2' : Lib.indexByte [59, 44, 46, 58, 40, 41, 123, 125, 61, 43, 45, 47] i.toUInt8 = r2 := hr2
              rw [hr2]
              rw [hr2'] at HC
              clear hr2 hr2'
              by_cases c4 : 0 ≤ r2
              · have HV : Hid (clsB i = 6) := by show _ = _; rw [HC.out, if_pos c4]
                have HN := Lib.hid (HSET.out 6 HV.out)
                clear HSET HKEEP HC
                go_wp2_with fail
                go_roundw
                case rel => exact ⟨i + 1, by go_num, by omega, HN⟩
                case measure => simp [intOf]; omega
              · have f2 : decide (0 ≤ r2) = false := by simp; omega
                rw [if_neg c4] at HC
                clear c4
                by_cases c5 : i = 60
                · have HV : Hid (clsB i = 7) := by show _ = _; rw [HC.out, if_pos c5]
                  have f3 : ((i : Int) == 60) = true := by simp; omega
                  clear c5
                  have HN := Lib.hid (HSET.out 7 HV.out)
                  clear HSET HKEEP HC
                  go_wp2_with fail
                  go_roundw
                  case rel => exact ⟨i + 1, by go_num, by omega, HN⟩
                  case measure => simp [intOf]; omega
                · have f3 : ((i : Int) == 60) = false := by simp; omega
                  rw [if_neg c5] at HC
                  clear c5
                  by_cases c6 : i = 62
                  · have HV : Hid (clsB i = 7) := by show _ = _; rw [HC.out, if_pos c6]
                    have f4 : ((i : Int) == 62) = true := by simp; omega
                    clear c6
                    have HN := Lib.hid (HSET.out 7 HV.out)
                    clear HSET HKEEP HC
                    go_wp2_with fail
                    go_roundw
                    case rel => exact ⟨i + 1, by go_num, by omega, HN⟩
                    case measure => simp [intOf]; omega
                  · have f4 : ((i : Int) == 62) = false := by simp; omega
                    have HV : Hid (clsB i = 0) := by show _ = _; rw [HC.out, if_neg c6]
                    clear c6
                    have HN := Lib.hid (HKEEP.out HV.out)
                    clear HSET HKEEP HC
                    go_wp2_with fail
                    go_roundw
                    case rel => exact ⟨i + 1, by go_num, by omega, HN⟩
                    case measure => simp [intOf]; omega
          · have HV : Hid (clsB i = 4) := by show _ = _; rw [HC.out, if_pos ⟨h, h'⟩]
            have HN := Lib.hid (HSET.out 4 HV.out)
            clear HSET HKEEP HC
            go_wp2_with fail
            go_roundw
            case rel => exact ⟨i + 1, by go_num, by omega, HN⟩
            case measure => simp [intOf]; omega
          · rw [if_neg (by omega)] at HC
            go_wp2_with fail
            refine (indexByte_any ⟨#[32, 9, 10]⟩ i wr).mono ?_
            rintro e w' ⟨rfl, rfl⟩
            obtain ⟨r1, hr1⟩ : ∃ r, Lib.indexByte (⟨#[32, 9, 10]⟩ : ByteArray).data.toList ((i : Int).toNat.toUInt8) = r := ⟨_, rfl⟩
            have hr1' : Lib.indexByte [32, 9, 10] i.toUInt8 = r1 := hr1
            rw [hr1]
            rw [hr1'] at HC
            clear hr1 hr1'
            by_cases c3 : 0 ≤ r1
            · have HV : Hid (clsB i = 1) := by show _ = _; rw [HC.out, if_pos c3]
              have HN := Lib.hid (HSET.out 1 HV.out)
              clear HSET HKEEP HC
              go_wp2_with fail
              go_roundw
              case rel => exact ⟨i + 1, by go_num, by omega, HN⟩
              case measure => simp [intOf]; omega
            · have f1 : decide (0 ≤ r1) = false := by simp; omega
              rw [if_neg c3] at HC
              clear c3
              go_wp2_with fail
              refine (indexByte_any ⟨#[59, 44, 46, 58, 40, 41, 123, 125, 61, 43, 45, 47]⟩ i wr).mono ?_
              rintro e w' ⟨rfl, rfl⟩
              obtain ⟨r2, hr2⟩ : ∃ r, Lib.indexByte (⟨#[59, 44, 46, 58, 40, 41, 123, 125, 61, 43, 45, 47]⟩ : ByteArray).data.toList ((i : Int).toNat.toUInt8) = r := ⟨_, rfl⟩
              have hr2' : Lib.indexByte [59, 44, 46, 58, 40, 41, 123, 125, 61, 43, 45, 47] i.toUInt8 = r2 := hr2
              rw [hr2]
              rw [hr2'] at HC
              clear hr2 hr2'
              by_cases c4 : 0 ≤ r2
              · have HV : Hid (clsB i = 6) := by show _ = _; rw [HC.out, if_pos c4]
                have HN := Lib.hid (HSET.out 6 HV.out)
                clear HSET HKEEP HC
                go_wp2_with fail
                go_roundw
                case rel => exact ⟨i + 1, by go_num, by omega, HN⟩
                case measure => simp [intOf]; omega
              · have f2 : decide (0 ≤ r2) = false := by simp; omega
                rw [if_neg c4] at HC
                clear c4
                by_cases c5 : i = 60
                · have HV : Hid (clsB i = 7) := by show _ = _; rw [HC.out, if_pos c5]
                  have f3 : ((i : Int) == 60) = true := by simp; omega
                  clear c5
                  have HN := Lib.hid (HSET.out 7 HV.out)
                  clear HSET HKEEP HC
                  go_wp2_with fail
                  go_roundw
                  case rel => exact ⟨i + 1, by go_num, by omega, HN⟩
                  case measure => simp [intOf]; omega
                · have f3 : ((i : Int) == 60) = false := by simp; omega
                  rw [if_neg c5] at HC
                  clear c5
                  by_cases c6 : i = 62
                  · have HV : Hid (clsB i = 7) := by show _ = _; rw [HC.out, if_pos c6]
                    have f4 : ((i : Int) == 62) = true := by simp; omega
                    clear c6
                    have HN := Lib.hid (HSET.out 7 HV.out)
                    clear HSET HKEEP HC
                    go_wp2_with fail
                    go_roundw
                    case rel => exact ⟨i + 1, by go_num, by omega, HN⟩
                    case measure => simp [intOf]; omega
                  · have f4 : ((i : Int) == 62) = false := by simp; omega
                    have HV : Hid (clsB i = 0) := by show _ = _; rw [HC.out, if_neg c6]
                    clear c6
                    have HN := Lib.hid (HKEEP.out HV.out)
                    clear HSET HKEEP HC
                    go_wp2_with fail
                    go_roundw
                    case rel => exact ⟨i + 1, by go_num, by omega, HN⟩
                    case measure => simp [intOf]; omega
          · rw [if_neg (by omega)] at HC
            go_wp2_with fail
            refine (indexByte_any ⟨#[32, 9, 10]⟩ i wr).mono ?_
            rintro e w' ⟨rfl, rfl⟩
            obtain ⟨r1, hr1⟩ : ∃ r, Lib.indexByte (⟨#[32, 9, 10]⟩ : ByteArray).data.toList ((i : Int).toNat.toUInt8) = r := ⟨_, rfl⟩
            have hr1' : Lib.indexByte [32, 9, 10] i.toUInt8 = r1 := hr1
            rw [hr1]
            rw [hr1'] at HC
            clear hr1 hr1'
            by_cases c3 : 0 ≤ r1
            · have HV : Hid (clsB i = 1) := by show _ = _; rw [HC.out, if_pos c3]
              have HN := Lib.hid (HSET.out 1 HV.out)
              clear HSET HKEEP HC
              go_wp2_with fail
              go_roundw
              case rel => exact ⟨i + 1, by go_num, by omega, HN⟩
              case measure => simp [intOf]; omega
            · have f1 : decide (0 ≤ r1) = false := by simp; omega
              rw [if_neg c3] at HC
              clear c3
              go_wp2_with fail
              refine (indexByte_any ⟨#[59, 44, 46, 58, 40, 41, 123, 125, 61, 43, 45, 47]⟩ i wr).mono ?_
              rintro e w' ⟨rfl, rfl⟩
              obtain ⟨r2, hr2⟩ : ∃ r, Lib.indexByte (⟨#[59, 44, 46, 58, 40, 41, 123, 125, 61, 43, 45, 47]⟩ : ByteArray).data.toList ((i : Int).toNat.toUInt8) = r := ⟨_, rfl⟩
              have hr2' : Lib.indexByte [59, 44, 46, 58, 40, 41, 123, 125, 61, 43, 45, 47] i.toUInt8 = r2 := hr2
              rw [hr2]
              rw [hr2'] at HC
              clear hr2 hr2'
              by_cases c4 : 0 ≤ r2
              · have HV : Hid (clsB i = 6) := by show _ = _; rw [HC.out, if_pos c4]
                have HN := Lib.hid (HSET.out 6 HV.out)
                clear HSET HKEEP HC
                go_wp2_with fail
                go_roundw
                case rel => exact ⟨i + 1, by go_num, by omega, HN⟩
                case measure => simp [intOf]; omega
              · have f2 : decide (0 ≤ r2) = false := by simp; omega
                rw [if_neg c4] at HC
                clear c4
                by_cases c5 : i = 60
                · have HV : Hid (clsB i = 7) := by show _ = _; rw [HC.out, if_pos c5]
                  have f3 : ((i : Int) == 60) = true := by simp; omega
                  clear c5
                  have HN := Lib.hid (HSET.out 7 HV.out)
                  clear HSET HKEEP HC
                  go_wp2_with fail
                  go_roundw
                  case rel => exact ⟨i + 1, by go_num, by omega, HN⟩
                  case measure => simp [intOf]; omega
                · have f3 : ((i : Int) == 60) = false := by simp; omega
                  rw [if_neg c5] at HC
                  clear c5
                  by_cases c6 : i = 62
                  · have HV : Hid (clsB i = 7) := by show _ = _; rw [HC.out, if_pos c6]
                    have f4 : ((i : Int) == 62) = true := by simp; omega
                    clear c6
                    have HN := Lib.hid (HSET.out 7 HV.out)
                    clear HSET HKEEP HC
                    go_wp2_with fail
                    go_roundw
                    case rel => exact ⟨i + 1, by go_num, by omega, HN⟩
                    case measure => simp [intOf]; omega
                  · have f4 : ((i : Int) == 62) = false := by simp; omega
                    have HV : Hid (clsB i = 0) := by show _ = _; rw [HC.out, if_neg c6]
                    clear c6
                    have HN := Lib.hid (HKEEP.out HV.out)
                    clear HSET HKEEP HC
                    go_wp2_with fail
                    go_roundw
                    case rel => exact ⟨i + 1, by go_num, by omega, HN⟩
                    case measure => simp [intOf]; omega
          · rw [if_neg (by omega)] at HC
            go_wp2_with fail
            refine (indexByte_any ⟨#[32, 9, 10]⟩ i wr).mono ?_
            rintro e w' ⟨rfl, rfl⟩
            obtain ⟨r1, hr1⟩ : ∃ r, Lib.indexByte (⟨#[32, 9, 10]⟩ : ByteArray).data.toList ((i : Int).toNat.toUInt8) = r := ⟨_, rfl⟩
            have hr1' : Lib.indexByte [32, 9, 10] i.toUInt8 = r1 := hr1
            rw [hr1]
            rw [hr1'] at HC
            clear hr1 hr1'
            by_cases c3 : 0 ≤ r1
            · have HV : Hid (clsB i = 1) := by show _ = _; rw [HC.out, if_pos c3]
              have HN := Lib.hid (HSET.out 1 HV.out)
              clear HSET HKEEP HC
              go_wp2_with fail
              go_roundw
              case rel => exact ⟨i + 1, by go_num, by omega, HN⟩
              case measure => simp [intOf]; omega
            · have f1 : decide (0 ≤ r1) = false := by simp; omega
              rw [if_neg c3] at HC
              clear c3
              go_wp2_with fail
              refine (indexByte_any ⟨#[59, 44, 46, 58, 40, 41, 123, 125, 61, 43, 45, 47]⟩ i wr).mono ?_
              rintro e w' ⟨rfl, rfl⟩
              obtain ⟨r2, hr2⟩ : ∃ r, Lib.indexByte (⟨#[59, 44, 46, 58, 40, 41, 123, 125, 61, 43, 45, 47]⟩ : ByteArray).data.toList ((i : Int).toNat.toUInt8) = r := ⟨_, rfl⟩
              have hr2' : Lib.indexByte [59, 44, 46, 58, 40, 41, 123, 125, 61, 43, 45, 47] i.toUInt8 = r2 := hr2
              rw [hr2]
              rw [hr2'] at HC
              clear hr2 hr2'
              by_cases c4 : 0 ≤ r2
              · have HV : Hid (clsB i = 6) := by show _ = _; rw [HC.out, if_pos c4]
                have HN := Lib.hid (HSET.out 6 HV.out)
                clear HSET HKEEP HC
                go_wp2_with fail
                go_roundw
                case rel => exact ⟨i + 1, by go_num, by omega, HN⟩
                case measure => simp [intOf]; omega
              · have f2 : decide (0 ≤ r2) = false := by simp; omega
                rw [if_neg c4] at HC
                clear c4
                by_cases c5 : i = 60
                · have HV : Hid (clsB i = 7) := by show _ = _; rw [HC.out, if_pos c5]
                  have f3 : ((i : Int) == 60) = true := by simp; omega
                  clear c5
                  have HN := Lib.hid (HSET.out 7 HV.out)
                  clear HSET HKEEP HC
                  go_wp2_with fail
                  go_roundw
                  case rel => exact ⟨i + 1, by go_num, by omega, HN⟩
                  case measure => simp [intOf]; omega
                · have f3 : ((i : Int) == 60) = false := by simp; omega
                  rw [if_neg c5] at HC
                  clear c5
                  by_cases c6 : i = 62
                  · have HV : Hid (clsB i = 7) := by show _ = _; rw [HC.out, if_pos c6]
                    have f4 : ((i : Int) == 62) = true := by simp; omega
                    clear c6
                    have HN := Lib.hid (HSET.out 7 HV.out)
                    clear HSET HKEEP HC
                    go_wp2_with fail
                    go_roundw
                    case rel => exact ⟨i + 1, by go_num, by omega, HN⟩
                    case measure => simp [intOf]; omega
                  · have f4 : ((i : Int) == 62) = false := by simp; omega
                    have HV : Hid (clsB i = 0) := by show _ = _; rw [HC.out, if_neg c6]
                    clear c6
                    have HN := Lib.hid (HKEEP.out HV.out)
                    clear HSET HKEEP HC
                    go_wp2_with fail
                    go_roundw
                    case rel => exact ⟨i + 1, by go_num, by omega, HN⟩
                    case measure => simp [intOf]; omega
    · have HE : Hid (i = 256) := by show _ = _; omega
      have HR2 := Lib.hid (HR.out.congr (g := clsB) (fun k hk => by rw [if_pos (by rw [HE.out]; exact hk)]))
      clear HR
      have x1 := HR2.out.out.cell 35 (by omega)
      have x2 := HR2.out.out.cell 95 (by omega)
      have x3 := HR2.out.out.cell 33 (by omega)
      have f1 := HR2.out.out.free 35
      have f2 := HR2.out.out.free 95
      have f3 := HR2.out.out.free 33
      have HF := Lib.hid (((HR2.out.put 35 2).put 95 5).put 33 8)
      go_upto_region 20 with fail
      generalize ((wr.setCell ⟨w.heap.size + 1, 35, none⟩ (.int .u8 2)).setCell ⟨w.heap.size + 1, 95, none⟩ (.int .u8 5)).setCell ⟨w.heap.size + 1, 33, none⟩ (.int .u8 8) = w4 at *
      clear x1 x2 x3 f1 f2 f3 HR2
      obtain ⟨arr, harr, hsz, hone, hcl⟩ := HF.out.out.agg
      obtain ⟨old, hold, hosz⟩ := HF.out.res
      have hi1 : (Tryz.prog.info? 106).map (·.size) = some 256 := by kernel_rfl
      have hi2 : (Tryz.prog.info? 106).map (·.size) = some arr.size := by rw [hsz]; exact hi1
      have HCL : Hid (∀ k, k < 256 → arr[k]? = some (.int .u8 (cls k))) := fun k hk => hcl k hk
      have HSZ := Lib.hid hsz
      have HONE := Lib.hid hone
      have HBL := Lib.hid (below_setRow (g := w.heap.size) HF.out.below (Nat.le_refl _) arr)
      have HRS := Lib.hid (setRow_heap w4 w.heap.size old arr 106 (0, 0) hold)
      have HAR := Lib.hid harr
      have HOL := Lib.hid hold
      have HI2 := Lib.hid hi2
      have HOS : Hid (old.size = arr.size) := by show _ = _; rw [hosz, hsz]
      clear hcl hsz hone harr hold hi1 hi2 hosz HF
      go_wp2_with (first
        | (refine wpList_load_row rfl 106 _ rfl (w.heap.size + 1) rfl 106 arr (0, 0) _ HAR.out Tryz.underlying106 rfl HI2.out ?_)
        | (refine wpList_store_row rfl 106 _ _ rfl w.heap.size arr rfl rfl 106 old HOL.out HI2.out HOS.out HONE.out ?_))
      exact bodyPost_ret (v := .agg arr) (results_cell_row rfl _ _ w.heap.size 106 arr (0, 0) _ rfl HRS.out Tryz.underlying106 rfl HI2.out) rfl ⟨arr, rfl, HSZ.out, HONE.out, HCL.out, HBL.out⟩
end Go.Proofs.YtkdbenoleendcaaGreatDoor
