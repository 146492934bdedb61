/- hold.mark, taken, name: the walks; hold.mark: the walk. -/
import Derived.Test.YtkdbenoleendcaaGreatDoorQHMB09
import Derived.Test.YtkdbenoleendcaaGreatDoorQHMB10
import Derived.Test.YtkdbenoleendcaaGreatDoorQHMB15
import Derived.RegionTactic
import Derived.BigRegion

namespace Go.Proofs.YtkdbenoleendcaaGreatDoor
open Go.RowKit Go.IntWalk

/-- How the state of a place lies in two cells. -/
def SpE : Enc SpT 2 := ⟨fun x => [.int .i64 x.1, .int .i64 x.2], fun _ => rfl, fun x v hv => by
  simp only [List.mem_cons, List.not_mem_nil, or_false] at hv
  rcases hv with rfl | rfl <;> rfl, by decide⟩

theorem sp_c0 {sp : List SpT} (i : Nat) (h : i < sp.length) : rc SpE sp i 0 = .int .i64 (spAt sp i).1 := by
  rw [rc_eq _ _ h]
  unfold spAt
  simp only [List.getD_eq_getElem?_getD, List.getElem?_eq_getElem h]
  rfl
theorem sp_c1 {sp : List SpT} (i : Nat) (h : i < sp.length) : rc SpE sp i 1 = .int .i64 (spAt sp i).2 := by
  rw [rc_eq _ _ h]
  unfold spAt
  simp only [List.getD_eq_getElem?_getD, List.getElem?_eq_getElem h]
  rfl

/-- A place's two cells are stored into. -/
theorem SpRow.put {w : World} {g : Nat} {T : TypeId} {sp : List SpT} (h : RecRow SpE w g T sp) (i : Nat) (hi : i < sp.length) (s : SpT) :
    RecRow SpE ((w.setCell ⟨g, i * 2, none⟩ (.int .i64 s.1)).setCell ⟨g, i * 2 + 1, none⟩ (.int .i64 s.2)) g T (sp.set i s) := by
  have h1 := h.put i 0 (s.1, (spAt sp i).2) (.int .i64 s.1) hi (by omega) (fun q hq => by
    have : q = 0 ∨ q = 1 := by omega
    rcases this with rfl | rfl
    · rfl
    · rw [if_neg (by omega), sp_c1 i hi]; rfl)
  have h2 := h1.put i 1 s (.int .i64 s.2) (by simpa using hi) (by omega) (fun q hq => by
    have : q = 0 ∨ q = 1 := by omega
    rcases this with rfl | rfl
    · rw [if_neg (by omega), sp_c0 i (by simpa using hi), spAt_set _ _ _ _ hi, if_pos rfl]; rfl
    · rfl)
  rw [List.set_set] at h2
  exact h2

theorem grown_two (w : World) (g o1 o2 : Nat) (u v : Value) : w.grownBy ((w.setCell ⟨g, o1, none⟩ u).setCell ⟨g, o2, none⟩ v) (some g) :=
  grown_trans (grown_setCell w g o1 u) (grown_setCell _ g o2 v)

set_option maxRecDepth 10000 in
theorem taken_any (g sb n c : Nat) (mv lv : Value) (sp : List SpT) (p : Int) (w : World) (hg : w.heap[g]? = some (.cells #[mv, .slice (some ⟨sb, 0, none⟩) n c, lv] 56 (0, 0))) (hs : RecRow SpE w sb 53 sp) (hl : sp.length = n) (hp : 0 ≤ p ∧ p < n) :
    Calls Tryz.prog 40 #[.pointer (some ⟨g, 0, none⟩), .int .i64 p] w fun e w' => e = .returned (.bool (takenB sp p)) ∧ w = w' := by
  obtain ⟨q, rfl⟩ : ∃ q : Nat, p = q := ⟨p.toNat, by omega⟩
  have g1 : w.cell? ⟨g, 1, none⟩ = some (.slice (some ⟨sb, 0, none⟩) n c) := by rw [cell_of_row _ _ _ _ _ _ hg]; rfl
  have hq : q < n := by omega
  have c0 := hs.cell q 0 (by omega) (by omega)
  rw [sp_c0 q (by omega)] at c0
  have HT : Hid (takenB sp (q : Int) = decide ((spAt sp q).1 ≠ 0)) := by show _ = _; unfold takenB; rw [Int.toNat_natCast]
  obtain ⟨x, hx⟩ : ∃ x, x = (spAt sp q).1 := ⟨_, rfl⟩
  rw [← hx, Nat.add_zero] at c0
  rw [← hx] at HT
  clear hx hg hs hp
  go_enter Tryz.func40, Tryz.ntmps40
  go_wp2_with fail
  go_ret
  refine ⟨?_, rfl⟩
  rw [HT.out]
  by_cases h0 : x = 0 <;> simp [h0]

set_option maxRecDepth 10000 in
theorem name_any (t : List UInt8) (hlen : t.length ≤ 1000) (w : World) : Calls Tryz.prog 38 #[.string (bs t)] w fun e w' => e = .returned (.bool (nameS t)) ∧ Below w.heap.size w w' := by
  go_enter Tryz.func38, Tryz.ntmps38
  go_wp2_with fail
  refine (lex_any t hlen w).mono ?_
  rintro e w1 ⟨v, er, p, toks, rfl, hb, hl, h0, h1, h2, h3⟩
  have HB := Lib.hid hb
  by_cases he : er = 0
  · subst he
    obtain ⟨la, c, rfl, hr⟩ := h0 rfl
    have HR := Lib.hid hr
    have H2 := Lib.hid h2
    have H3 := Lib.hid (fun h => h3 h rfl)
    clear hb h0 h1 h2 h3 hr
    by_cases hk : toks.length = 1
    · obtain ⟨x, rfl⟩ : ∃ x, toks = [x] := List.length_eq_one_iff.mp hk
      obtain ⟨b, o, e, cc⟩ := HR.out.2 0 (by simp)
      subst e
      have k0 : w1.cell? ⟨b, o, none⟩ = some (.int .i64 x.kind) := by
        have := cc 0 (by decide)
        rw [rc_eq 0 0 (by simp)] at this
        simpa [TokE] using this
      have k1 : w1.cell? ⟨b, o + 1, none⟩ = some (.string (bs x.text)) := by
        have := cc 1 (by decide)
        rw [rc_eq 0 1 (by simp)] at this
        simpa [TokE] using this
      clear cc
      have HN : Hid (nameS t = (decide (x.kind = 1) && decide (x.text = t))) := by
        show _ = _
        cases hn : nameS t
        · have := H3.out hn x [] rfl
          by_cases a : x.kind = 1
          · have b : ¬ x.text = t := fun b => this ⟨a, b⟩
            simp [a, b]
          · simp [a]
        · obtain ⟨_, y, hy, h1, h2⟩ := H2.out hn
          obtain rfl : x = y := by simpa using hy
          simp [h1, h2]
      clear H2 H3 HR hl
      rw [show ([x] : List Fnd).length = 1 from rfl]
      obtain ⟨kd, tx, nu, po⟩ := x
      dsimp only at k0 k1 HN
      by_cases hk : kd = 1
      · subst hk
        by_cases htx : tx = t
        · subst htx
          go_wp2_with fail
          go_ret
          exact ⟨by rw [HN.out]; simp, HB.out⟩
        · go_wp2_with fail
          go_ret
          refine ⟨?_, HB.out⟩
          rw [HN.out]
          simp [bs_beq, htx]
      · have hkd : (kd == 1) = false := by simp [hk]
        go_wp2_with fail
        go_ret
        exact ⟨by rw [HN.out]; simp [hk], HB.out⟩
    · have HN : Hid (nameS t = false) := by
        cases hn : nameS t
        · rfl
        · obtain ⟨_, x, hx, _⟩ := H2.out hn
          rw [hx] at hk
          simp at hk
      have hk0 : decide (toks.length = 1) = false := by simp [hk]
      go_wp2_with fail
      go_ret
      exact ⟨by rw [HN.out]; rfl, HB.out⟩
  · have hz : (er == 0) = false := by simp [he]
    have HN : Hid (nameS t = false) := by
      cases hn : nameS t
      · rfl
      · exact absurd (h2 hn).1 he
    clear hb h0 h1 h2 h3
    go_wp2_with fail
    go_ret
    exact ⟨by rw [HN.out]; rfl, HB.out⟩
end Go.Proofs.YtkdbenoleendcaaGreatDoor

namespace Go.Proofs.YtkdbenoleendcaaGreatDoor
open Go.RowKit Go.IntWalk

/-- A place's state in a box. -/
def BoxS (W : World) (b : Nat) (s : SpT) : Prop := W.heap[b]? = some (.cells #[.int .i64 s.1, .int .i64 s.2] 53 (0, 0))
theorem BoxS.c0 {W : World} {b : Nat} {s : SpT} (h : BoxS W b s) : W.cell? ⟨b, 0, none⟩ = some (.int .i64 s.1) := by rw [cell_of_row _ _ _ _ _ _ h]; rfl
theorem BoxS.c1 {W : World} {b : Nat} {s : SpT} (h : BoxS W b s) : W.cell? ⟨b, 1, none⟩ = some (.int .i64 s.2) := by rw [cell_of_row _ _ _ _ _ _ h]; rfl

theorem mark_snoc {sp : List SpT} {l : List Int} {i : Nat} (s : SpT) (h : i < l.length) : markS sp (l.take (i + 1)) s = (markS sp (l.take i) s).set (ix l i).toNat s := by
  have : l.take (i + 1) = l.take i ++ [ix l i] := by
    unfold ix
    rw [List.take_add_one, List.getD_eq_getElem?_getD, List.getElem?_eq_getElem h]
    rfl
  rw [this]
  unfold markS
  rw [List.foldl_append]
  rfl

theorem ix_mem {l : List Int} {i : Nat} (h : i < l.length) : ix l i ∈ l := by
  unfold ix
  rw [List.getD_eq_getElem?_getD, List.getElem?_eq_getElem h]
  exact List.getElem_mem h

set_option maxRecDepth 10000 in
theorem mark_any (g sb n c : Nat) (mv lv : Value) (sp : List SpT) (l : List Int) (s : SpT) (pa : Option Addr) (m mc : Nat) (w : World)
    (hg : w.heap[g]? = some (.cells #[mv, .slice (some ⟨sb, 0, none⟩) n c, lv] 56 (0, 0))) (hgs : g ≠ sb) (hs : RecRow SpE w sb 53 sp) (hl : sp.length = n) (hm : m ≤ 4000)
    (hr : ∀ p ∈ l, 0 ≤ p ∧ p < n) (hL : ∀ wx, w.grownBy wx (some sb) → Ints wx pa m l) :
    Calls Tryz.prog 42 #[.pointer (some ⟨g, 0, none⟩), .slice pa m mc, .agg #[.int .i64 s.1, .int .i64 s.2]] w fun e w' => e = .returned (.tuple #[]) ∧ w.grownBy w' (some sb) ∧ RecRow SpE w' sb 53 (markS sp l s) := by
  have hlen := (hL w (grown_refl w _)).1
  have HL := Lib.hid hL
  have HG := Lib.hid hg
  have HS := Lib.hid hs
  have HR : Hid (∀ i, i < m → 0 ≤ ix l i ∧ ix l i < n) := fun i hi => hr _ (ix_mem (by omega))
  have hsl := hs.lt
  have hgl := lt_of_block hg
  have hwn : Hid (w.heap.size = w.heap.size) := rfl
  clear hL hg hs hr
  go_enter Tryz.func42, Tryz.ntmps42
  go_wp2_with fail
  go_loopw [7, 10] (fun v7 v10 wr => ∃ i : Nat, v10 = .int .i64 i ∧ i ≤ m ∧ Hid (w.grownBy wr (some sb)) ∧ Hid (RecRow SpE wr sb 53 (markS sp (l.take i) s)) ∧ Hid (BoxS wr w.heap.size s) ∧ w.heap.size < wr.heap.size) (fun _ v10 _ => m - (intOf v10).toNat)
  case atStart => exact ⟨0, rfl, Nat.zero_le _, World.grownBy_alloc w _ _, HS.out.grown (World.grownBy_alloc w _ none) (by simp), World.alloc_heap_new w _, by simp⟩
  case round =>
    obtain ⟨i, rfl, hi, HB, HO, HX, hsz⟩ := hrel
    by_cases hlt : i < m
    · obtain ⟨b, o, rfl, c0⟩ := (HL.out wr HB.out).2 i hlt
      have hx := HR.out i hlt
      have HN := Lib.hid (mark_snoc (sp := sp) (l := l) (i := i) s (by omega))
      obtain ⟨q, hq⟩ : ∃ q : Nat, ix l i = q := ⟨(ix l i).toNat, by omega⟩
      rw [hq] at c0 hx HN
      clear hq
      have hqn : q < n := by omega
      clear hx
      have x0 := HX.out.c0
      have x1 := HX.out.c1
      have hgr : wr.heap[g]? = some (.cells #[mv, .slice (some ⟨sb, 0, none⟩) n c, lv] 56 (0, 0)) := (HB.out.block g hgl (by simp [hgs])).trans HG.out
      have g1 : wr.cell? ⟨g, 1, none⟩ = some (.slice (some ⟨sb, 0, none⟩) n c) := by rw [cell_of_row _ _ _ _ _ _ hgr]; rfl
      have hml : (markS sp (l.take i) s).length = n := by rw [mark_len]; exact hl
      have k0 := HO.out.cell q 0 (by omega) (by omega)
      have k1 := HO.out.cell q 1 (by omega) (by omega)
      have f0 := HO.out.free (q * 2)
      have f1 := HO.out.free (q * 2 + 1)
      rw [Nat.add_zero] at k0
      clear hgr
      have hB2 : Hid (w.grownBy ((wr.setCell ⟨sb, q * 2, none⟩ (.int .i64 s.1)).setCell ⟨sb, q * 2 + 1, none⟩ (.int .i64 s.2)).drew (some sb)) :=
        grown_trans HB.out (grown_trans (grown_two wr sb _ _ _ _) (grown_drew1 _ _))
      have hO2 : Hid (RecRow SpE ((wr.setCell ⟨sb, q * 2, none⟩ (.int .i64 s.1)).setCell ⟨sb, q * 2 + 1, none⟩ (.int .i64 s.2)).drew sb 53 (markS sp (l.take (i + 1)) s)) := by
        show RecRow _ _ _ _ _
        rw [HN.out, Int.toNat_natCast]
        exact (SpRow.put HO.out q (by omega) s).drewN 1
      have hX2 : Hid (BoxS ((wr.setCell ⟨sb, q * 2, none⟩ (.int .i64 s.1)).setCell ⟨sb, q * 2 + 1, none⟩ (.int .i64 s.2)).drew w.heap.size s) :=
        ((grown_trans (grown_two wr sb _ _ _ _) (grown_drew1 _ _)).block w.heap.size hsz (by simp; omega)).trans HX.out
      have hz2 : w.heap.size < ((wr.setCell ⟨sb, q * 2, none⟩ (.int .i64 s.1)).setCell ⟨sb, q * 2 + 1, none⟩ (.int .i64 s.2)).drew.heap.size :=
        Nat.lt_of_lt_of_le hsz (grown_trans (grown_two wr sb _ _ _ _) (grown_drew1 _ _)).size
      go_upto_region 4 with fail
      go_region
      generalize ((wr.setCell ⟨sb, q * 2, none⟩ (.int .i64 s.1)).setCell ⟨sb, q * 2 + 1, none⟩ (.int .i64 s.2)).drew = w2 at *
      clear k0 k1 f0 f1 x0 x1 g1 c0
      go_wp2_with fail
      exact ⟨⟨i + 1, by go_num, hlt, hB2, hO2, hX2, hz2⟩, by simp [intOf]; omega⟩
    · have hi' : i = m := by omega
      subst hi'
      go_wp2_with fail
      go_end0
      refine ⟨rfl, HB.out, ?_⟩
      have := HO.out
      rwa [List.take_of_length_le (by omega)] at this
end Go.Proofs.YtkdbenoleendcaaGreatDoor
