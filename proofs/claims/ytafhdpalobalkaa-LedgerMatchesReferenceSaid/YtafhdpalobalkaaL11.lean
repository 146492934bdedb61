/- ledger.first at the four checks of Book: the walk. -/
import Derived.Test.YtafhdpalobalkaaL10
namespace Go.Proofs.Ytafhdpalobalkaa
open Go.RowKit Go.IntWalk Go.Maps Go.ChangeMaps

/-- What the four checks find, and lay into the box of the next balances. -/
def FirstPost (Bs : List BookT) (b : BookT) (nb : Nat) (w : World) (e : Ending) (w' : World) : Prop :=
  e = .returned (.int .i64 (bookE Bs b)) ∧ w.grownBy w' (some nb) ∧ (bookE Bs b = 0 → ∃ M', w'.heap[nb]? = some (.cells #[.map (some M')] 52 (0, 0)) ∧ w.heap.size ≤ M' ∧ BalM w' M' (20 * Bs.length + b.2.length) (sumF (balS Bs) b.2 b.2.length))

theorem bookE_1 {Bs : List BookT} {b : BookT} (h : formE b ≠ 0) : bookE Bs b = formE b := by unfold bookE; rw [if_pos h]
theorem bookE_2 {Bs : List BookT} {b : BookT} (h1 : formE b = 0) (h : zeroE b.2 ≠ 0) : bookE Bs b = zeroE b.2 := by unfold bookE; rw [if_neg (by omega), if_pos h]
theorem bookE_3 {Bs : List BookT} {b : BookT} (h1 : formE b = 0) (h2 : zeroE b.2 = 0) (h : twiceE Bs b.1 ≠ 0) : bookE Bs b = twiceE Bs b.1 := by unfold bookE; rw [if_neg (by omega), if_neg (by omega), if_pos h]
theorem bookE_4 {Bs : List BookT} {b : BookT} (h1 : formE b = 0) (h2 : zeroE b.2 = 0) (h3 : twiceE Bs b.1 = 0) : bookE Bs b = rangeS (balS Bs) b.2 := by unfold bookE; rw [if_neg (by omega), if_neg (by omega), if_neg (by omega)]

set_option maxRecDepth 10000 in
set_option maxHeartbeats 1600000 in
theorem first_any (sb lb nb bb g : Nat) (S : Nat → Prop) (id : Int) (ra : Option Addr) (n c : Nat) (l : List PostT) (Bs : List BookT) (v0 : Value) (w : World) (hL : LedAt w S g Bs)
    (hsb : w.heap[sb]? = some (.cells #[.func (.func 28) #[] #[.pointer (some ⟨lb, 0, none⟩), .pointer (some ⟨bb, 0, none⟩)], .func (.func 31) #[] #[.pointer (some ⟨bb, 0, none⟩)], .func (.func 32) #[] #[.pointer (some ⟨lb, 0, none⟩), .pointer (some ⟨bb, 0, none⟩)], .func (.func 33) #[] #[.pointer (some ⟨lb, 0, none⟩), .pointer (some ⟨nb, 0, none⟩), .pointer (some ⟨bb, 0, none⟩)]] 60 (0, 0)))
    (hlb : w.heap[lb]? = some (.cells #[.pointer (some ⟨g, 0, none⟩)] 26 (0, 0))) (hnb : w.heap[nb]? = some (.cells #[v0] 52 (0, 0))) (hbb : w.heap[bb]? = some (.cells #[.int .i64 id, .slice ra n c] 34 (0, 0)))
    (hn : n ≤ 9223372036854775807) (hP : Posts w ra n l) (hw : ∀ i, i < l.length → (pn l i).length ≤ maxLen ∧ (Lit.int .i64 (pk l i)).wf = true) :
    Calls Try.prog 27 #[.slice (some ⟨sb, 0, none⟩) 4 4] w (FirstPost Bs (id, l) nb w) := by
  have HL := Lib.hid hL
  have HSB := Lib.hid hsb
  have HLB := Lib.hid hlb
  have HNB := Lib.hid hnb
  have HBB := Lib.hid hbb
  have HP := Lib.hid hP
  have HW := Lib.hid hw
  have hlen := hP.1
  have HPN : Hid (∀ i, i < n → (pn l i).length ≤ 9223372036854775807) := fun i hi => by have := (hw i (by omega)).1; unfold maxLen at this; omega
  clear hL hsb hlb hnb hbb hP hw
  go_enter Try.func27, Try.ntmps27
  go_wp2_with fail
  go_loopw [8] (fun v8 wr => (v8 = .int .i64 0 ∧ Hid (Below w.heap.size w wr)) ∨ (v8 = .int .i64 1 ∧ Hid (Below w.heap.size w wr ∧ formE (id, l) = 0)) ∨ (v8 = .int .i64 2 ∧ Hid (Below w.heap.size w wr ∧ formE (id, l) = 0 ∧ zeroE l = 0)) ∨
    (v8 = .int .i64 3 ∧ Hid (Below w.heap.size w wr ∧ formE (id, l) = 0 ∧ zeroE l = 0 ∧ twiceE Bs id = 0)) ∨ (v8 = .int .i64 4 ∧ Hid (FirstPost Bs (id, l) nb w (.returned (.int .i64 0)) wr))) (fun v8 _ => 4 - (intOf v8).toNat)
  case atStart => exact Or.inl ⟨rfl, Below.refl _ _⟩
  case round =>
    rcases hrel with ⟨rfl, HB⟩ | ⟨rfl, HB⟩ | ⟨rfl, HB⟩ | ⟨rfl, HB⟩ | ⟨rfl, HB⟩
    · have x0 : wr.cell? ⟨sb, 0, none⟩ = _ := cell_of_row _ _ _ _ _ _ ((HB.out.block sb (lt_of_block HSB.out)).trans HSB.out)
      simp only [List.getElem?_toArray, List.getElem?_cons_zero] at x0
      have HC := Lib.hid (book1_any lb bb g id ra n c l wr ((HB.out.block lb (lt_of_block HLB.out)).trans HLB.out) ((HB.out.block bb (lt_of_block HBB.out)).trans HBB.out) hn (HP.out.below HB.out) HPN.out)
      have HE := Lib.hid (bookE_1 (Bs := Bs) (b := (id, l)))
      obtain ⟨er, her⟩ : ∃ er, formE (id, l) = er := ⟨_, rfl⟩
      rw [her] at HC HE
      have HER := Lib.hid her
      clear her
      go_wp2_with fail
      refine HC.out.mono ?_
      rintro e w1 ⟨rfl, hb1⟩
      have HB1 := Lib.hid (HB.out.trans (hb1.mono HB.out.size))
      clear hb1 x0
      by_cases h0 : er = 0
      · subst h0
        go_wp2_with fail
        go_roundw
        case rel => exact Or.inr (Or.inl ⟨rfl, HB1.out, HER.out⟩)
        case measure => simp [intOf]
      · have hz : (er == 0) = false := by simp [h0]
        have HR := Lib.hid (HE.out h0)
        have H0 := Lib.hid h0
        clear h0
        go_wp2_with fail
        go_ret
        exact ⟨by rw [HR.out]; rfl, grown_below HB1.out _, fun h => absurd (HR.out.symm.trans h) H0.out⟩
    · have x0 : wr.cell? ⟨sb, 1, none⟩ = _ := cell_of_row _ _ _ _ _ _ ((HB.out.1.block sb (lt_of_block HSB.out)).trans HSB.out)
      simp only [List.getElem?_toArray, List.getElem?_cons_zero, List.getElem?_cons_succ] at x0
      have HC := Lib.hid (book2_any bb id ra n c l wr ((HB.out.1.block bb (lt_of_block HBB.out)).trans HBB.out) hn (HP.out.below HB.out.1))
      have HE := Lib.hid (bookE_2 (Bs := Bs) (b := (id, l)) HB.out.2)
      obtain ⟨er, her⟩ : ∃ er, zeroE l = er := ⟨_, rfl⟩
      dsimp only at HE
      rw [her] at HC HE
      have HER := Lib.hid her
      clear her
      go_wp2_with fail
      refine HC.out.mono ?_
      rintro e w1 ⟨rfl, hb1⟩
      have HB1 := Lib.hid (HB.out.1.trans (hb1.mono HB.out.1.size))
      clear hb1 x0
      by_cases h0 : er = 0
      · subst h0
        go_wp2_with fail
        go_roundw
        case rel => exact Or.inr (Or.inr (Or.inl ⟨rfl, HB1.out, HB.out.2, HER.out⟩))
        case measure => simp [intOf]
      · have hz : (er == 0) = false := by simp [h0]
        have HR := Lib.hid (HE.out h0)
        have H0 := Lib.hid h0
        clear h0
        go_wp2_with fail
        go_ret
        exact ⟨by rw [HR.out]; rfl, grown_below HB1.out _, fun h => absurd (HR.out.symm.trans h) H0.out⟩
    · have x0 : wr.cell? ⟨sb, 2, none⟩ = _ := cell_of_row _ _ _ _ _ _ ((HB.out.1.block sb (lt_of_block HSB.out)).trans HSB.out)
      simp only [List.getElem?_toArray, List.getElem?_cons_zero, List.getElem?_cons_succ] at x0
      obtain ⟨la, k, cc, M, I, rs, hc⟩ := HL.out.below HB.out.1
      have hfo := formed_ok (b := (id, l)) (formE_0 HB.out.2.1) HW.out
      have HC := Lib.hid (book3_any lb bb g I Bs.length id ra n c Bs wr ((HB.out.1.block lb (lt_of_block HLB.out)).trans HLB.out) ((HB.out.1.block bb (lt_of_block HBB.out)).trans HBB.out) (by rw [cell_of_row _ _ _ _ _ _ hc.box]; rfl) hc.ids hfo.2)
      have HE := Lib.hid (bookE_3 (Bs := Bs) (b := (id, l)) HB.out.2.1 HB.out.2.2)
      obtain ⟨er, her⟩ : ∃ er, twiceE Bs id = er := ⟨_, rfl⟩
      dsimp only at HE
      rw [her] at HC HE
      have HER := Lib.hid her
      clear her hc hfo
      go_wp2_with fail
      refine HC.out.mono ?_
      rintro e w1 ⟨rfl, hb1⟩
      have HB1 := Lib.hid (HB.out.1.trans (hb1.mono HB.out.1.size))
      clear hb1 x0
      by_cases h0 : er = 0
      · subst h0
        go_wp2_with fail
        go_roundw
        case rel => exact Or.inr (Or.inr (Or.inr (Or.inl ⟨rfl, HB1.out, HB.out.2.1, HB.out.2.2, HER.out⟩)))
        case measure => simp [intOf]
      · have hz : (er == 0) = false := by simp [h0]
        have HR := Lib.hid (HE.out h0)
        have H0 := Lib.hid h0
        clear h0
        go_wp2_with fail
        go_ret
        exact ⟨by rw [HR.out]; rfl, grown_below HB1.out _, fun h => absurd (HR.out.symm.trans h) H0.out⟩
    · have x0 : wr.cell? ⟨sb, 3, none⟩ = _ := cell_of_row _ _ _ _ _ _ ((HB.out.1.block sb (lt_of_block HSB.out)).trans HSB.out)
      simp only [List.getElem?_toArray, List.getElem?_cons_zero, List.getElem?_cons_succ] at x0
      obtain ⟨la, k, cc, M, I, rs, hc⟩ := HL.out.below HB.out.1
      have hfo := formed_ok (b := (id, l)) (formE_0 HB.out.2.1) HW.out
      have hbl := hc.ok.len
      have HC := Lib.hid (book4_any lb nb bb g M (20 * Bs.length) id ra n c l (balS Bs) v0 wr (by omega) ((HB.out.1.block lb (lt_of_block HLB.out)).trans HLB.out) ((HB.out.1.block nb (lt_of_block HNB.out)).trans HNB.out) ((HB.out.1.block bb (lt_of_block HBB.out)).trans HBB.out) (by rw [cell_of_row _ _ _ _ _ _ hc.box]; rfl) hc.bal hc.ok.near (HP.out.below HB.out.1) hfo.1)
      have HE := Lib.hid (bookE_4 (Bs := Bs) (b := (id, l)) HB.out.2.1 HB.out.2.2.1 HB.out.2.2.2)
      obtain ⟨er, her⟩ : ∃ er, rangeS (balS Bs) l = er := ⟨_, rfl⟩
      dsimp only at HE
      rw [her] at HC HE
      clear her hc hfo
      go_wp2_with fail
      refine HC.out.mono ?_
      rintro e w1 ⟨rfl, hg1, M', hm1, hm2, hm3⟩
      have HG1 := Lib.hid ((grown_below HB.out.1 (some nb)).trans hg1)
      have HM1 : Hid (∃ M', w1.heap[nb]? = some (.cells #[.map (some M')] 52 (0, 0)) ∧ w.heap.size ≤ M' ∧ BalM w1 M' (20 * Bs.length + l.length) (sumF (balS Bs) l l.length)) := ⟨M', hm1, Nat.le_trans HB.out.1.size hm2, hm3⟩
      clear hg1 hm1 hm2 hm3 x0
      by_cases h0 : er = 0
      · subst h0
        go_wp2_with fail
        go_roundw
        case rel => exact Or.inr (Or.inr (Or.inr (Or.inr ⟨rfl, by rw [HE.out], HG1.out, fun _ => HM1.out⟩)))
        case measure => simp [intOf]
      · have hz : (er == 0) = false := by simp [h0]
        have H0 := Lib.hid h0
        clear h0
        go_wp2_with fail
        go_ret
        exact ⟨by rw [HE.out]; rfl, HG1.out, fun h => absurd (HE.out.symm.trans h) H0.out⟩
    · go_wp2_with fail
      go_ret
      exact HB.out
end Go.Proofs.Ytafhdpalobalkaa
