/- hold.mark: the walk. -/
import Derived.Test.YtkdbenoleendcaaDoorHA
namespace Go.Proofs.YtkdbenoleendcaaDoor
open Go.RowKit Go.IntWalk

/-- A place's state in a box. -/
def BoxS (W : World) (b : Nat) (s : SpT) : Prop := W.heap[b]? = some (.cells #[.int .i64 s.1, .int .i64 s.2] 35 (0, 0))
theorem BoxS.c0 {W : World} {b : Nat} {s : SpT} (h : BoxS W b s) : W.cell? ⟨b, 0, none⟩ = some (.int .i64 s.1) := by rw [cell_of_row _ _ _ _ _ _ h]; rfl
theorem BoxS.c1 {W : World} {b : Nat} {s : SpT} (h : BoxS W b s) : W.cell? ⟨b, 1, none⟩ = some (.int .i64 s.2) := by rw [cell_of_row _ _ _ _ _ _ h]; rfl

theorem mark_snoc {sp : List SpT} {l : List Int} {i : Nat} (s : SpT) (h : i < l.length) : markS sp (l.take (i + 1)) s = (markS sp (l.take i) s).set (ix l i).toNat s := by
  have : l.take (i + 1) = l.take i ++ [ix l i] := by
    unfold ix
    rw [List.take_add_one, List.getD_eq_getElem?_getD, List.getElem?_eq_getElem h]
    rfl
  rw [this]
  unfold markS
  rw [List.foldl_append]
  rfl

theorem ix_mem {l : List Int} {i : Nat} (h : i < l.length) : ix l i ∈ l := by
  unfold ix
  rw [List.getD_eq_getElem?_getD, List.getElem?_eq_getElem h]
  exact List.getElem_mem h

set_option maxRecDepth 10000 in
theorem mark_any (g sb n c : Nat) (mv lv : Value) (sp : List SpT) (l : List Int) (s : SpT) (pa : Option Addr) (m mc : Nat) (w : World)
    (hg : w.heap[g]? = some (.cells #[mv, .slice (some ⟨sb, 0, none⟩) n c, lv] 63 (0, 0))) (hgs : g ≠ sb) (hs : RecRow SpE w sb 35 sp) (hl : sp.length = n) (hm : m ≤ 4000)
    (hr : ∀ p ∈ l, 0 ≤ p ∧ p < n) (hL : ∀ wx, w.grownBy wx (some sb) → Ints wx pa m l) :
    Calls Tryd.prog 37 #[.pointer (some ⟨g, 0, none⟩), .slice pa m mc, .agg #[.int .i64 s.1, .int .i64 s.2]] w fun e w' => e = .returned (.tuple #[]) ∧ w.grownBy w' (some sb) ∧ RecRow SpE w' sb 35 (markS sp l s) := by
  have hlen := (hL w (grown_refl w _)).1
  have HL := Lib.hid hL
  have HG := Lib.hid hg
  have HS := Lib.hid hs
  have HR : Hid (∀ i, i < m → 0 ≤ ix l i ∧ ix l i < n) := fun i hi => hr _ (ix_mem (by omega))
  have hsl := hs.lt
  have hgl := lt_of_block hg
  have hwn : Hid (w.heap.size = w.heap.size) := rfl
  clear hL hg hs hr
  go_enter Tryd.func37, Tryd.ntmps37
  go_wp2_with fail
  go_loopw [7, 10] (fun v7 v10 wr => ∃ i : Nat, v10 = .int .i64 i ∧ i ≤ m ∧ Hid (w.grownBy wr (some sb)) ∧ Hid (RecRow SpE wr sb 35 (markS sp (l.take i) s)) ∧ Hid (BoxS wr w.heap.size s) ∧ w.heap.size < wr.heap.size) (fun _ v10 _ => m - (intOf v10).toNat)
  case atStart => exact ⟨0, rfl, Nat.zero_le _, World.grownBy_alloc w _ _, HS.out.grown (World.grownBy_alloc w _ none) (by simp), World.alloc_heap_new w _, by simp⟩
  case round =>
    obtain ⟨i, rfl, hi, HB, HO, HX, hsz⟩ := hrel
    by_cases hlt : i < m
    · obtain ⟨b, o, rfl, c0⟩ := (HL.out wr HB.out).2 i hlt
      have hx := HR.out i hlt
      have HN := Lib.hid (mark_snoc (sp := sp) (l := l) (i := i) s (by omega))
      obtain ⟨q, hq⟩ : ∃ q : Nat, ix l i = q := ⟨(ix l i).toNat, by omega⟩
      rw [hq] at c0 hx HN
      clear hq
      have hqn : q < n := by omega
      clear hx
      have x0 := HX.out.c0
      have x1 := HX.out.c1
      have hgr : wr.heap[g]? = some (.cells #[mv, .slice (some ⟨sb, 0, none⟩) n c, lv] 63 (0, 0)) := (HB.out.block g hgl (by simp [hgs])).trans HG.out
      have g1 : wr.cell? ⟨g, 1, none⟩ = some (.slice (some ⟨sb, 0, none⟩) n c) := by rw [cell_of_row _ _ _ _ _ _ hgr]; rfl
      have hml : (markS sp (l.take i) s).length = n := by rw [mark_len]; exact hl
      have k0 := HO.out.cell q 0 (by omega) (by omega)
      have k1 := HO.out.cell q 1 (by omega) (by omega)
      have f0 := HO.out.free (q * 2)
      have f1 := HO.out.free (q * 2 + 1)
      rw [Nat.add_zero] at k0
      clear hgr
      have hB2 : Hid (w.grownBy ((wr.setCell ⟨sb, q * 2, none⟩ (.int .i64 s.1)).setCell ⟨sb, q * 2 + 1, none⟩ (.int .i64 s.2)).drew (some sb)) :=
        grown_trans HB.out (grown_trans (grown_two wr sb _ _ _ _) (grown_drew1 _ _))
      have hO2 : Hid (RecRow SpE ((wr.setCell ⟨sb, q * 2, none⟩ (.int .i64 s.1)).setCell ⟨sb, q * 2 + 1, none⟩ (.int .i64 s.2)).drew sb 35 (markS sp (l.take (i + 1)) s)) := by
        show RecRow _ _ _ _ _
        rw [HN.out, Int.toNat_natCast]
        exact (SpRow.put HO.out q (by omega) s).drewN 1
      have hX2 : Hid (BoxS ((wr.setCell ⟨sb, q * 2, none⟩ (.int .i64 s.1)).setCell ⟨sb, q * 2 + 1, none⟩ (.int .i64 s.2)).drew w.heap.size s) :=
        ((grown_trans (grown_two wr sb _ _ _ _) (grown_drew1 _ _)).block w.heap.size hsz (by simp; omega)).trans HX.out
      have hz2 : w.heap.size < ((wr.setCell ⟨sb, q * 2, none⟩ (.int .i64 s.1)).setCell ⟨sb, q * 2 + 1, none⟩ (.int .i64 s.2)).drew.heap.size :=
        Nat.lt_of_lt_of_le hsz (grown_trans (grown_two wr sb _ _ _ _) (grown_drew1 _ _)).size
      go_upto_region 4 with fail
      go_region
      generalize ((wr.setCell ⟨sb, q * 2, none⟩ (.int .i64 s.1)).setCell ⟨sb, q * 2 + 1, none⟩ (.int .i64 s.2)).drew = w2 at *
      clear k0 k1 f0 f1 x0 x1 g1 c0
      go_wp2_with fail
      exact ⟨⟨i + 1, by go_num, hlt, hB2, hO2, hX2, hz2⟩, by simp [intOf]; omega⟩
    · have hi' : i = m := by omega
      subst hi'
      go_wp2_with fail
      go_end0
      refine ⟨rfl, HB.out, ?_⟩
      have := HO.out
      rwa [List.take_of_length_le (by omega)] at this
end Go.Proofs.YtkdbenoleendcaaDoor
