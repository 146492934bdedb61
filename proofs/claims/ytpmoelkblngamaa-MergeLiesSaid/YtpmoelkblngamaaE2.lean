/- merge: foyerlaw38.named: the walk. -/
import Derived.Test.YtpmoelkblngamaaC6
namespace Go.Proofs.Ytpmoelkblngamaa
open Go.RowKit Go.IntWalk Go.Maps Go.WideMaps

def namedP (k g n : Int) (b : Blm) : Bool := decide (b.kind = k ∧ b.gate = g ∧ b.number = n)

set_option maxRecDepth 10000 in
set_option maxHeartbeats 1600000 in
theorem named_any (ra : Option Addr) (n c : Nat) (l : List Blm) (k g nu : Int) (w : World) (h : Recs BlmE w ra n l) (hn : n ≤ 1000000) :
    Calls Try.prog 26 #[.slice ra n c, .int .i64 k, .int .i64 g, .int .i64 nu] w fun e w' => e = .returned (.bool (l.any (namedP k g nu))) ∧ w = w' := by
  have HL := Lib.hid h
  have hlen := h.1
  clear h
  go_enter Try.func26, Try.ntmps26
  go_wp2_with fail
  go_loopw [9] (fun v9 wr => ∃ i : Nat, v9 = .int .i64 i ∧ i ≤ n ∧ w = wr ∧ Hid (∀ j, j < i → ∀ b, l[j]? = some b → namedP k g nu b = false)) (fun v9 _ => n - (intOf v9).toNat)
  case atStart => exact ⟨0, rfl, Nat.zero_le _, rfl, fun j hj => by omega⟩
  case round =>
    obtain ⟨i, rfl, hi, rfl, HW⟩ := hrel
    by_cases hlt : i < n
    · have h1 : i < l.length := by omega
      obtain ⟨b1, o1, rfl, c0, c1, c2, c3, c4, c5⟩ := blm_at HL.out i hlt h1
      have HX1 : Hid (l[i]? = some l[i]) := List.getElem?_eq_getElem h1
      generalize l[i] = x at *
      clear h1
      have HN : Hid (namedP k g nu x = false → ∀ j, j < i + 1 → ∀ b, l[j]? = some b → namedP k g nu b = false) := fun hx j hj b hb => by
        by_cases e : j = i
        · rw [e, HX1.out] at hb
          cases hb
          exact hx
        · exact HW.out j (by omega) b hb
      by_cases hk : x.kind = k
      · have bk : (x.kind == k) = true := by simp [hk]
        have HKK := Lib.hid hk
        clear hk
        by_cases hg : x.gate = g
        · have bg : (x.gate == g) = true := by simp [hg]
          have HGG := Lib.hid hg
          clear hg
          by_cases hu : x.number = nu
          · have bu : (x.number == nu) = true := by simp [hu]
            have HUU := Lib.hid hu
            clear hu
            have HR : Hid (l.any (namedP k g nu) = true) := List.any_eq_true.mpr ⟨x, List.mem_of_getElem? HX1.out, decide_eq_true ⟨HKK.out, HGG.out, HUU.out⟩⟩
            go_wp2_with fail
            go_ret
            exact ⟨by rw [HR.out]; rfl, rfl⟩
          · have bu : (x.number == nu) = false := by simp [hu]
            have HN2 := Lib.hid (HN.out (decide_eq_false (fun h => hu h.2.2)))
            clear hu
            go_wp2_with fail
            go_roundw
            case rel => exact ⟨i + 1, by go_num, hlt, trivial, HN2⟩
            case measure => simp [intOf]; omega
        · have bg : (x.gate == g) = false := by simp [hg]
          have HN2 := Lib.hid (HN.out (decide_eq_false (fun h => hg h.2.1)))
          clear hg
          go_wp2_with fail
          go_roundw
          case rel => exact ⟨i + 1, by go_num, hlt, trivial, HN2⟩
          case measure => simp [intOf]; omega
      · have bk : (x.kind == k) = false := by simp [hk]
        have HN2 := Lib.hid (HN.out (decide_eq_false (fun h => hk h.1)))
        clear hk
        go_wp2_with fail
        go_roundw
        case rel => exact ⟨i + 1, by go_num, hlt, trivial, HN2⟩
        case measure => simp [intOf]; omega
    · have HR : Hid (l.any (namedP k g nu) = false) := List.any_eq_false.mpr fun b hb => by
        obtain ⟨j, hj⟩ := List.getElem?_of_mem hb
        obtain ⟨hjl, _⟩ := List.getElem?_eq_some_iff.mp hj
        rw [HW.out j (by omega) b hj]
        simp
      go_wp2_with fail
      go_ret
      exact ⟨by rw [HR.out]; rfl, rfl⟩
end Go.Proofs.Ytpmoelkblngamaa
