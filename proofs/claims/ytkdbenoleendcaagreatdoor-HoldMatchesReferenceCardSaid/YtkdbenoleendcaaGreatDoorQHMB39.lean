/- foyerref26: set. -/
import Derived.Test.YtkdbenoleendcaaGreatDoorQHMB38

namespace Go.Proofs.YtkdbenoleendcaaGreatDoor
open Go.RowKit Go.IntWalk Go.Maps Go.WideMaps

def SetPost (g : Nat) (oa : Option Addr) (oc : Nat) (E : List OwnT) (st : St) (w : World) (e : Ending) (w' : World) : Prop :=
  ∃ sa' sc', e = .returned (.tuple #[]) ∧ RefC w' g oa oc sa' sc' E st ∧ Upd (Gb g) w w' ∧ ∀ b o, sa' = some ⟨b, o, none⟩ → w.heap.size ≤ b

set_option maxRecDepth 10000 in
set_option maxHeartbeats 1600000 in
theorem set_any (w : World) (g : Nat) (oa sa : Option Addr) (oc sc : Nat) (E : List OwnT) (st : St) (l : List Int) (pa : Option Addr) (m mc : Nat) (s id : Int) (h : RefC w g oa oc sa sc E st) (hm : m ≤ 4000) (hsp : st.sp.length ≤ 4000) (hm1 : 1 ≤ m) (hr : ∀ p ∈ l, 0 ≤ p ∧ p < st.sp.length) (hL : Ints w pa m l) :
    Calls Tryz.prog 31 #[.pointer (some ⟨g, 0, none⟩), .slice pa m mc, .int .i64 s, .int .i64 id] w (SetPost g oa oc E ⟨markS st.sp l (s, id), st.last, st.op⟩ w) := by
  have HC := Lib.hid h
  have HL := Lib.hid hL
  have hlen := hL.1
  have HR : Hid (∀ i, i < m → 0 ≤ ix l i ∧ ix l i < st.sp.length) := fun i hi => hr _ (ix_mem (by omega))
  have hpos : 0 < st.sp.length := by have := HR.out 0 (by omega); omega
  obtain ⟨b0, hb0, hrow⟩ := h.sps hpos
  subst hb0
  have g1 := h.c1
  obtain ⟨ns, hns⟩ : ∃ ns, st.sp.length = ns := ⟨_, rfl⟩
  have HNS := Lib.hid hns
  have hM : Recs SpE w (some ⟨b0, 0, none⟩) ns st.sp := by rw [← hns]; exact hrow.recs
  have HM := Lib.hid (hM.below (Joins.below_alloc1 w (.cells #[] 53)))
  obtain ⟨i1, hj, hj0, hj1, hj2⟩ := info_parts' info_sp
  have HOW := Lib.hid (World.ownsRow_made (e := 53) (size := 2) w #[] 0 (Nat.le_refl _) (by unfold maxLen; omega) rfl)
  have hfl : (flat SpE st.sp).length = ns * 2 := by rw [flat_len, hns]
  have HFC := Lib.hid (flat_cells HM.out)
  rw [hns] at g1 hsp hpos HR
  have g1' := Below.cell_of (Joins.below_alloc1 w (.cells #[] 53)) g1
  clear h hL hr hrow hM hns g1
  go_enter Tryz.func31, Tryz.ntmps31
  go_wp2_with (at_builtin; refine wpList_append_own _ rfl _ _ 44 rfl w.heap.size 53 i1 _ 2 16 Tryz.underlying44 hj hj0 hj1 hj2 rfl (by decide) (.slice (some ⟨w.heap.size, 0, none⟩) 0 0) 0 [] rfl HOW.out ⟨b0, 0, none⟩ ns sc (flat SpE st.sp) rfl hfl HFC.out flat_one (by unfold maxLen; omega) (by omega) (by simp) ?_; intro v' w3 hown' hgrow _; have HN := Lib.hid (And.intro hown' hgrow); clear hown' hgrow)
  have hns0 : 0 + ns = ns := Nat.zero_add _
  obtain ⟨b, c', rfl, _, hbb, _, hrr⟩ := RecRow.of_row (E := SpE) (xs := st.sp) (n := ns) hpos (by have := HN.out.1; rw [hns0, List.nil_append] at this; exact this)
  have HB3 : Hid (Below w.heap.size w w3) := ((Below.refl _ _).alloc (Nat.le_refl _) _).grown HN.out.2 (by simp) (fun k hk => Nat.le_of_eq (by simpa [Value.ownBlock] using hk))
  have HR3 := Lib.hid hrr
  have HBB := Lib.hid hbb
  have HGB : Hid (b ≠ g) := by
    have := lt_of_block HC.out.blk
    show b ≠ g
    omega
  clear HN HOW HFC HM hfl hrr hbb g1' hns0 hj hj0 hj1 hj2
  go_loopw [9] (fun v9 wr => ∃ i : Nat, v9 = .int .i64 i ∧ i ≤ m ∧ Hid (Below w.heap.size w wr) ∧ Hid (RecRow SpE wr b 53 (markS st.sp (l.take i) (s, id)))) (fun v9 _ => m - (intOf v9).toNat)
  case atStart => exact ⟨0, rfl, Nat.zero_le _, HB3.out, HR3.out⟩
  case round =>
    obtain ⟨i, rfl, hi, HB, HO⟩ := hrel
    by_cases hlt : i < m
    · obtain ⟨b2, o2, rfl, c0⟩ := (HL.out.below HB.out).2 i hlt
      have hx := HR.out i hlt
      have HN := Lib.hid (mark_snoc (sp := st.sp) (l := l) (i := i) (s, id) (by omega))
      obtain ⟨q, hq⟩ : ∃ q : Nat, ix l i = q := ⟨(ix l i).toNat, by omega⟩
      rw [hq] at c0 hx HN
      have hqn : q < ns := by omega
      have hml : (markS st.sp (l.take i) (s, id)).length = ns := by rw [mark_len]; exact HNS.out
      have k0 := HO.out.cell q 0 (by omega) (by omega)
      have k1 := HO.out.cell q 1 (by omega) (by omega)
      have f0 := HO.out.free (q * 2)
      have f1 := HO.out.free (q * 2 + 1)
      rw [Nat.add_zero] at k0
      have hB2 : Hid (Below w.heap.size w ((wr.setCell ⟨b, q * 2, none⟩ (.int .i64 s)).setCell ⟨b, q * 2 + 1, none⟩ (.int .i64 id))) :=
        HB.out.grown (grown_two wr b _ _ _ _) HB.out.size (fun k hk => by cases hk; exact HBB.out)
      have hO2 : Hid (RecRow SpE ((wr.setCell ⟨b, q * 2, none⟩ (.int .i64 s)).setCell ⟨b, q * 2 + 1, none⟩ (.int .i64 id)) b 53 (markS st.sp (l.take (i + 1)) (s, id))) := by
        show RecRow _ _ _ _ _
        rw [HN.out, Int.toNat_natCast]
        exact SpRow.put HO.out q (by omega) (s, id)
      clear hq hx hml
      go_wp2_with fail
      exact ⟨⟨i + 1, by go_num, hlt, hB2.out, hO2.out⟩, by simp [intOf]; omega⟩
    · have hi' : i = m := by omega
      subst hi'
      have hT : l.take i = l := List.take_of_length_le (by omega)
      rw [hT] at HO
      have HCr := Lib.hid (HC.out.below HB.out)
      have y1 := HCr.out.c1
      have f1 := HCr.out.fr 1
      have HBK : Hid ((wr.setCell ⟨g, 1, none⟩ (.slice (some ⟨b, 0, none⟩) ns c')).heap[g]? = some (.cells #[.slice oa st.op.length oc, .slice (some ⟨b, 0, none⟩) ns c', .int .i64 st.last] 58 (0, 0))) := by
        have := HCr.out.blk
        show _ = _
        simp [World.setCell, Array.getElem?_modify, this]
      have HG : Hid (wr.grownBy (wr.setCell ⟨g, 1, none⟩ (.slice (some ⟨b, 0, none⟩) ns c')) (some g)) := grown_setCell _ _ _ _
      clear hT HR
      go_wp2_with fail
      go_end0
      have hu : Upd (Gb g) wr (wr.setCell ⟨g, 1, none⟩ (.slice (some ⟨b, 0, none⟩) ns c')) := Upd.of_row HG.out (fun b e => by cases e; rfl)
      have hln : (markS st.sp l (s, id)).length = ns := by rw [mark_len]; exact HNS.out
      refine ⟨some ⟨b, 0, none⟩, c', rfl, ⟨?_, ?_, HC.out.ops, fun _ => ⟨b, rfl, ?_⟩, HC.out.cap⟩, (Upd.of_below HB.out).trans hu, fun b o e => by cases e; exact HBB.out⟩
      · rw [HBK.out]
        dsimp only
        rw [hln]
      · refine HCr.out.opn.upd hu (fun b' arr ty x hb hty => HCr.out.not_g hb ?_)
        rcases hty with rfl | rfl <;> decide
      · exact HO.out.grown HG.out (by have := HGB.out; simpa using this)
end Go.Proofs.YtkdbenoleendcaaGreatDoor
