/- hold.mark, taken, name: the walks. -/
import Derived.Test.YtkdbenoleendcaaDoorLX
import Derived.Test.YtkdbenoleendcaaDoorRN
import Derived.Test.YtkdbenoleendcaaDoorH4
import Derived.RegionTactic
import Derived.BigRegion
namespace Go.Proofs.YtkdbenoleendcaaDoor
open Go.RowKit Go.IntWalk

/-- How the state of a place lies in two cells. -/
def SpE : Enc SpT 2 := ⟨fun x => [.int .i64 x.1, .int .i64 x.2], fun _ => rfl, fun x v hv => by
  simp only [List.mem_cons, List.not_mem_nil, or_false] at hv
  rcases hv with rfl | rfl <;> rfl, by decide⟩

theorem sp_c0 {sp : List SpT} (i : Nat) (h : i < sp.length) : rc SpE sp i 0 = .int .i64 (spAt sp i).1 := by
  rw [rc_eq _ _ h]
  unfold spAt
  simp only [List.getD_eq_getElem?_getD, List.getElem?_eq_getElem h]
  rfl
theorem sp_c1 {sp : List SpT} (i : Nat) (h : i < sp.length) : rc SpE sp i 1 = .int .i64 (spAt sp i).2 := by
  rw [rc_eq _ _ h]
  unfold spAt
  simp only [List.getD_eq_getElem?_getD, List.getElem?_eq_getElem h]
  rfl

/-- A place's two cells are stored into. -/
theorem SpRow.put {w : World} {g : Nat} {T : TypeId} {sp : List SpT} (h : RecRow SpE w g T sp) (i : Nat) (hi : i < sp.length) (s : SpT) :
    RecRow SpE ((w.setCell ⟨g, i * 2, none⟩ (.int .i64 s.1)).setCell ⟨g, i * 2 + 1, none⟩ (.int .i64 s.2)) g T (sp.set i s) := by
  have h1 := h.put i 0 (s.1, (spAt sp i).2) (.int .i64 s.1) hi (by omega) (fun q hq => by
    have : q = 0 ∨ q = 1 := by omega
    rcases this with rfl | rfl
    · rfl
    · rw [if_neg (by omega), sp_c1 i hi]; rfl)
  have h2 := h1.put i 1 s (.int .i64 s.2) (by simpa using hi) (by omega) (fun q hq => by
    have : q = 0 ∨ q = 1 := by omega
    rcases this with rfl | rfl
    · rw [if_neg (by omega), sp_c0 i (by simpa using hi), spAt_set _ _ _ _ hi, if_pos rfl]; rfl
    · rfl)
  rw [List.set_set] at h2
  exact h2

theorem grown_two (w : World) (g o1 o2 : Nat) (u v : Value) : w.grownBy ((w.setCell ⟨g, o1, none⟩ u).setCell ⟨g, o2, none⟩ v) (some g) :=
  grown_trans (grown_setCell w g o1 u) (grown_setCell _ g o2 v)

set_option maxRecDepth 10000 in
theorem taken_any (g sb n c : Nat) (mv lv : Value) (sp : List SpT) (p : Int) (w : World) (hg : w.heap[g]? = some (.cells #[mv, .slice (some ⟨sb, 0, none⟩) n c, lv] 63 (0, 0))) (hs : RecRow SpE w sb 35 sp) (hl : sp.length = n) (hp : 0 ≤ p ∧ p < n) :
    Calls Tryd.prog 39 #[.pointer (some ⟨g, 0, none⟩), .int .i64 p] w fun e w' => e = .returned (.bool (takenB sp p)) ∧ w = w' := by
  obtain ⟨q, rfl⟩ : ∃ q : Nat, p = q := ⟨p.toNat, by omega⟩
  have g1 : w.cell? ⟨g, 1, none⟩ = some (.slice (some ⟨sb, 0, none⟩) n c) := by rw [cell_of_row _ _ _ _ _ _ hg]; rfl
  have hq : q < n := by omega
  have c0 := hs.cell q 0 (by omega) (by omega)
  rw [sp_c0 q (by omega)] at c0
  have HT : Hid (takenB sp (q : Int) = decide ((spAt sp q).1 ≠ 0)) := by show _ = _; unfold takenB; rw [Int.toNat_natCast]
  obtain ⟨x, hx⟩ : ∃ x, x = (spAt sp q).1 := ⟨_, rfl⟩
  rw [← hx, Nat.add_zero] at c0
  rw [← hx] at HT
  clear hx hg hs hp
  go_enter Tryd.func39, Tryd.ntmps39
  go_wp2_with fail
  go_ret
  refine ⟨?_, rfl⟩
  rw [HT.out]
  by_cases h0 : x = 0 <;> simp [h0]

set_option maxRecDepth 10000 in
theorem name_any (t : List UInt8) (hlen : t.length ≤ 1000) (w : World) : Calls Tryd.prog 41 #[.string (bs t)] w fun e w' => e = .returned (.bool (nameS t)) ∧ Below w.heap.size w w' := by
  go_enter Tryd.func41, Tryd.ntmps41
  go_wp2_with fail
  refine (lex_any t hlen w).mono ?_
  rintro e w1 ⟨v, er, p, toks, rfl, hb, hl, h0, h1, h2, h3⟩
  have HB := Lib.hid hb
  by_cases he : er = 0
  · subst he
    obtain ⟨la, c, rfl, hr⟩ := h0 rfl
    have HR := Lib.hid hr
    have H2 := Lib.hid h2
    have H3 := Lib.hid (fun h => h3 h rfl)
    clear hb h0 h1 h2 h3 hr
    by_cases hk : toks.length = 1
    · obtain ⟨x, rfl⟩ : ∃ x, toks = [x] := List.length_eq_one_iff.mp hk
      obtain ⟨b, o, e, cc⟩ := HR.out.2 0 (by simp)
      subst e
      have k0 : w1.cell? ⟨b, o, none⟩ = some (.int .i64 x.kind) := by
        have := cc 0 (by decide)
        rw [rc_eq 0 0 (by simp)] at this
        simpa [TokE] using this
      have k1 : w1.cell? ⟨b, o + 1, none⟩ = some (.string (bs x.text)) := by
        have := cc 1 (by decide)
        rw [rc_eq 0 1 (by simp)] at this
        simpa [TokE] using this
      clear cc
      have HN : Hid (nameS t = (decide (x.kind = 1) && decide (x.text = t))) := by
        show _ = _
        cases hn : nameS t
        · have := H3.out hn x [] rfl
          by_cases a : x.kind = 1
          · have b : ¬ x.text = t := fun b => this ⟨a, b⟩
            simp [a, b]
          · simp [a]
        · obtain ⟨_, y, hy, h1, h2⟩ := H2.out hn
          obtain rfl : x = y := by simpa using hy
          simp [h1, h2]
      clear H2 H3 HR hl
      rw [show ([x] : List Fnd).length = 1 from rfl]
      obtain ⟨kd, tx, nu, po⟩ := x
      dsimp only at k0 k1 HN
      by_cases hk : kd = 1
      · subst hk
        by_cases htx : tx = t
        · subst htx
          go_wp2_with fail
          go_ret
          exact ⟨by rw [HN.out]; simp, HB.out⟩
        · go_wp2_with fail
          go_ret
          refine ⟨?_, HB.out⟩
          rw [HN.out]
          simp [bs_beq, htx]
      · have hkd : (kd == 1) = false := by simp [hk]
        go_wp2_with fail
        go_ret
        exact ⟨by rw [HN.out]; simp [hk], HB.out⟩
    · have HN : Hid (nameS t = false) := by
        cases hn : nameS t
        · rfl
        · obtain ⟨_, x, hx, _⟩ := H2.out hn
          rw [hx] at hk
          simp at hk
      have hk0 : decide (toks.length = 1) = false := by simp [hk]
      go_wp2_with fail
      go_ret
      exact ⟨by rw [HN.out]; rfl, HB.out⟩
  · have hz : (er == 0) = false := by simp [he]
    have HN : Hid (nameS t = false) := by
      cases hn : nameS t
      · rfl
      · exact absurd (h2 hn).1 he
    clear hb h0 h1 h2 h3
    go_wp2_with fail
    go_ret
    exact ⟨by rw [HN.out]; rfl, HB.out⟩
end Go.Proofs.YtkdbenoleendcaaDoor
