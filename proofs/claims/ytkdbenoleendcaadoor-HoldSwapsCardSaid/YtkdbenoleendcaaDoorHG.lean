/- hold: Release, Sell, Free. -/
import Derived.Test.YtkdbenoleendcaaDoorHF
namespace Go.Proofs.YtkdbenoleendcaaDoor
open Go.RowKit Go.IntWalk Go.Maps Go.WideMaps

/-- An error alone, and the Holds that is left. -/
def ErrPost (F : Nat → Prop) (g M sb : Nat) (w : World) (er : Int) (st : St) (e : Ending) (w' : World) : Prop :=
  ∃ E', e = .returned (.int .i64 er) ∧ HoldC w' F g M sb E' st ∧ Upd (Own3 g M sb) w w'

theorem release_any (w : World) (F : Nat → Prop) (g M sb : Nat) (E : List OwnT) (st : St) (id : Int) (h : HoldC w F g M sb E st) (hw : (Lit.int .i64 id).wf = true) :
    Calls Tryd.prog 25 #[.pointer (some ⟨g, 0, none⟩), .int .i64 id] w (ErrPost F g M sb w (endS st id (0, 0)).1.2 (endS st id (0, 0)).2) := by
  have HC := Lib.hid (end_any w F g M sb E st id (0, 0) h hw (end_inv h.inv id _ (Or.inl rfl)))
  clear h
  go_enter Tryd.func25, Tryd.ntmps25
  go_wp2_with fail
  refine HC.out.mono ?_
  rintro e w' ⟨v, E', rfl, hv, hh, hu⟩
  have HH := Lib.hid hh
  have HU := Lib.hid hu
  clear hh hu hv
  go_wp2_with fail
  go_ret
  exact ⟨E', rfl, HH.out, HU.out⟩

theorem sell_any (w : World) (F : Nat → Prop) (g M sb : Nat) (E : List OwnT) (st : St) (id : Int) (h : HoldC w F g M sb E st) (hw : (Lit.int .i64 id).wf = true) :
    Calls Tryd.prog 28 #[.pointer (some ⟨g, 0, none⟩), .int .i64 id] w (EndPost F g M sb w (endS st id (2, id))) := by
  have HC := Lib.hid (end_any w F g M sb E st id (2, id) h hw (end_inv h.inv id _ (Or.inr rfl)))
  clear h
  go_enter Tryd.func28, Tryd.ntmps28
  go_wp2_with fail
  refine HC.out.mono ?_
  rintro e w' ⟨v, E', rfl, hv, hh, hu⟩
  have HV := Lib.hid hv
  have HH := Lib.hid hh
  have HU := Lib.hid hu
  clear hh hu hv
  go_wp2_with fail
  go_ret2
  exact ⟨v, E', rfl, HV.out, HH.out, HU.out⟩

theorem free_any (w : World) (F : Nat → Prop) (g M sb : Nat) (E : List OwnT) (st : St) (p : Int) (h : HoldC w F g M sb E st) :
    Calls Tryd.prog 26 #[.pointer (some ⟨g, 0, none⟩), .int .i64 p] w (ErrPost F g M sb w (freeS st p).1 (freeS st p).2) := by
  have HH := Lib.hid h
  have g1 : w.cell? ⟨g, 1, none⟩ = some (.slice (some ⟨sb, 0, none⟩) st.sp.length st.sp.length) := by rw [cell_of_row _ _ _ _ _ _ h.blk]; rfl
  clear h
  by_cases h0 : p < 0
  · have HS : Hid (freeS st p = (1, st)) := by
      show _ = _
      unfold freeS
      rw [if_pos (by unfold inR; simp; omega)]
    go_enter Tryd.func26, Tryd.ntmps26
    go_wp2_with fail
    go_ret
    exact ⟨E, by rw [HS.out]; rfl, by rw [HS.out]; exact HH.out, Upd.refl _ _⟩
  by_cases h1 : (st.sp.length : Int) ≤ p
  · have HS : Hid (freeS st p = (1, st)) := by
      show _ = _
      unfold freeS
      rw [if_pos (by unfold inR; simp; omega)]
    go_enter Tryd.func26, Tryd.ntmps26
    go_wp2_with fail
    go_ret
    exact ⟨E, by rw [HS.out]; rfl, by rw [HS.out]; exact HH.out, Upd.refl _ _⟩
  have hin : inR st.sp.length p = true := by unfold inR; simp; omega
  obtain ⟨q, rfl⟩ : ∃ q : Nat, p = q := ⟨p.toNat, by omega⟩
  have hq : q < st.sp.length := by omega
  have c0 := HH.out.sps.cell q 0 hq (by omega)
  have c1 := HH.out.sps.cell q 1 hq (by omega)
  have f0 := HH.out.sps.free (q * 2)
  have f1 := HH.out.sps.free (q * 2 + 1)
  rw [sp_c0 q hq, Nat.add_zero] at c0
  rw [sp_c1 q hq] at c1
  by_cases h2 : (spAt st.sp q).1 = 2
  · have HS : Hid (freeS st q = (0, ⟨st.sp.set q (0, 0), st.last, st.op⟩)) := by
      show _ = _
      unfold freeS
      rw [if_neg (by simp [hin]), if_neg (by rw [Int.toNat_natCast]; omega), Int.toNat_natCast]
    have HI : Hid (Inv (freeS st q).2) := free_inv HH.out.inv q
    have hB : Hid (w.grownBy ((w.setCell ⟨sb, q * 2, none⟩ (.int .i64 0)).setCell ⟨sb, q * 2 + 1, none⟩ (.int .i64 0)) (some sb)) := grown_two w sb _ _ _ _
    have hR : Hid (RecRow SpE ((w.setCell ⟨sb, q * 2, none⟩ (.int .i64 0)).setCell ⟨sb, q * 2 + 1, none⟩ (.int .i64 0)) sb 35 (st.sp.set q (0, 0))) := SpRow.put HH.out.sps q hq (0, 0)
    rw [h2] at c0
    clear h2 hin
    go_enter Tryd.func26, Tryd.ntmps26
    go_wp2_with fail
    go_ret
    refine ⟨E, by rw [HS.out]; rfl, ?_, Upd.of_row hB.out (fun b e => by cases e; exact Or.inr (Or.inr rfl))⟩
    have hI := HI.out
    rw [HS.out] at hI ⊢
    refine ⟨?_, HH.out.map.kept hB.out (by have := HH.out.ne_sM; simp; omega), hR.out, HH.out.ops, fun y hy => ?_, hI⟩
    · have := (hB.out.block g (lt_of_block HH.out.blk) (by have := HH.out.ne_gs; simpa using this)).trans HH.out.blk
      simpa using this
    · obtain ⟨b', e', hb', hr'⟩ := HH.out.pls y hy
      have hno := HH.out.pl_own hr'
      exact ⟨b', e', hb', hr'.keep (T := fun i => i = sb) (Upd.of_row hB.out (fun b e => by cases e; rfl)) (fun h => hno (Or.inr (Or.inr h)))⟩
  · have HS : Hid (freeS st q = (12, st)) := by
      show _ = _
      unfold freeS
      rw [if_neg (by simp [hin]), if_pos (by rw [Int.toNat_natCast]; exact h2)]
    obtain ⟨x, hx⟩ : ∃ x, (spAt st.sp q).1 = x := ⟨_, rfl⟩
    rw [hx] at c0 h2
    clear hx
    have hz : (x == 2) = false := by simp [h2]
    have hz2 : (x != 2) = true := by simp [h2]
    clear h2 hin
    go_enter Tryd.func26, Tryd.ntmps26
    go_wp2_with fail
    go_ret
    exact ⟨E, by rw [HS.out]; rfl, by rw [HS.out]; exact HH.out, Upd.refl _ _⟩
end Go.Proofs.YtkdbenoleendcaaDoor
