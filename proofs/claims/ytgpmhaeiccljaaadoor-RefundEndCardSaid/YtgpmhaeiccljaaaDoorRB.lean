/- refund.Split: the walk; refund.New, Left: the walks; foyerref29.New, Left: the walks. -/
import Derived.Test.YtgpmhaeiccljaaaDoorRA
namespace Go.Proofs.YtgpmhaeiccljaaaDoor
open Go.RowKit Go.IntWalk

/-- What Split returns. -/
noncomputable def rsplS (l : List MeanT) (a : Int) : List MeanT × Int := if rightB l = true then mpartS l a else ([], 1)

theorem PartPost.from {r : List MeanT × Int} {w w1 : World} {e : Ending} {w' : World} (hb : Below w.heap.size w w1) (h : PartPost r w1 e w') : PartPost r w e w' := by
  obtain ⟨la, k, c, he, hb2, ho⟩ := h
  exact ⟨la, k, c, he, hb.trans (hb2.mono hb.size), ho.1, fun hk => let ⟨g, e', hg, hr⟩ := ho.2 hk; ⟨g, e', Nat.le_trans hb.size hg, hr⟩⟩

set_option maxRecDepth 10000 in
theorem rfsplit_any (ra : Option Addr) (n c : Nat) (l : List MeanT) (a : Int) (w : World) (h : Means w ra n l) (hn : n ≤ 30) (hl : ∀ i, i < n → (nm l i).length ≤ 60) :
    Calls Tryd.prog 11 #[.slice ra n c, .int .i64 a] w (PartPost (rsplS l a) w) := by
  have HM := Lib.hid h
  have HL := Lib.hid hl
  clear h hl
  go_enter Tryd.func11, Tryd.ntmps11
  go_wp2_with fail
  refine (mright_any ra n c l w HM.out hn HL.out).mono ?_
  rintro e w1 ⟨rfl, hb1⟩
  have HB1 := Lib.hid hb1
  clear hb1
  cases hr : rightB l
  · have HR : Hid (rsplS l a = ([], 1)) := by show _ = _; unfold rsplS; rw [hr]; rfl
    clear hr
    go_wp2_with fail
    go_ret2
    exact ⟨none, 0, 0, by rw [HR.out]; rfl, HB1.out, by rw [HR.out]; exact OwnRecs.nil⟩
  · have HR : Hid (rsplS l a = mpartS l a) := by show _ = _; unfold rsplS; rw [hr]; rfl
    have HG := Lib.hid (right_iff.mp hr).good
    clear hr
    go_wp2_with fail
    refine (mpart_any ra n c l a w1 (HM.out.below HB1.out) HG.out hn).mono ?_
    rintro e w2 hp
    obtain ⟨la, k, c', rfl, hb2, ho⟩ := PartPost.from HB1.out hp
    have HB2 := Lib.hid hb2
    have HO := Lib.hid ho
    clear hp hb2 ho
    go_wp2_with fail
    go_ret2
    exact ⟨la, k, c', by rw [HR.out]; rfl, HB2.out, by rw [HR.out]; exact HO.out⟩
end Go.Proofs.YtgpmhaeiccljaaaDoor
namespace Go.Proofs.YtgpmhaeiccljaaaDoor
open Go.RowKit Go.IntWalk

/-- Refunds in memory, of the call's own from B on: what is left of them. -/
def RefAt (w : World) (B g : Nat) (l : List MeanT) : Prop :=
  ∃ la k c, w.heap[g]? = some (.cells #[.slice la k c] 59 (0, 0)) ∧ B ≤ g ∧ OwnRecs MeanE w B 46 la k l

set_option maxRecDepth 10000 in
theorem new_any (ra : Option Addr) (n c : Nat) (l : List MeanT) (w : World) (h : Means w ra n l) (hn : n ≤ 30) (hl : ∀ i, i < n → (nm l i).length ≤ 60) :
    Calls Tryd.prog 13 #[.slice ra n c] w fun e w' => Below w.heap.size w w' ∧ ((rightB l = false ∧ e = .returned (.tuple #[.pointer none, .int .i64 1])) ∨ (rightB l = true ∧ ∃ g, e = .returned (.tuple #[.pointer (some ⟨g, 0, none⟩), .int .i64 0]) ∧ RefAt w' w.heap.size g l)) := by
  have HM := Lib.hid h
  have HL := Lib.hid hl
  clear h hl
  go_enter Tryd.func13, Tryd.ntmps13
  go_wp2_with fail
  refine (mright_any ra n c l w HM.out hn HL.out).mono ?_
  rintro e w1 ⟨rfl, hb1⟩
  have HB1 := Lib.hid hb1
  clear hb1
  cases hr : rightB l
  · have HR := Lib.hid hr
    clear hr
    go_wp2_with fail
    go_ret2
    exact ⟨HB1.out, .inl ⟨HR.out, rfl⟩⟩
  · have HR := Lib.hid hr
    clear hr
    go_wp2_with fail
    refine (clone_list ra n c l w1 (HM.out.below HB1.out) (by omega)).mono ?_
    rintro e w2 ⟨la, k, c', rfl, _, hb2, ho⟩
    have HB2 := Lib.hid (HB1.out.trans (hb2.mono HB1.out.size))
    have HO := Lib.hid ho
    have hs1 := HB1.out.size
    clear hb2 ho
    go_wp2_with fail
    go_ret2
    have hba := Joins.below_alloc1 w2 (.cells #[.slice la k c'] 59)
    have ho2 := HO.out.below hba
    exact ⟨HB2.out.trans (hba.mono HB2.out.size), .inr ⟨HR.out, w2.heap.size, rfl, la, k, c', World.alloc_heap_new w2 _, HB2.out.size, ho2.1, fun hk => let ⟨g, e', hg, hr⟩ := ho2.2 hk; ⟨g, e', Nat.le_trans hs1 hg, hr⟩⟩⟩

set_option maxRecDepth 10000 in
theorem left_any (B g : Nat) (l : List MeanT) (w : World) (h : RefAt w B g l) (hn : l.length ≤ 1000) :
    Calls Tryd.prog 19 #[.pointer (some ⟨g, 0, none⟩)] w fun e w' => ∃ la k c', e = .returned (.slice la k c') ∧ k ≤ c' ∧ Below w.heap.size w w' ∧ OwnRecs MeanE w' w.heap.size 46 la k l := by
  obtain ⟨la, k, c, hb, _, ho⟩ := h
  have x0 : w.cell? ⟨g, 0, none⟩ = some (.slice la k c) := by rw [cell_of_row _ _ _ _ _ _ hb]; rfl
  have HM := Lib.hid ho.recs
  have hk : k ≤ 1000 := by have := ho.1; omega
  clear hb ho
  go_enter Tryd.func19, Tryd.ntmps19
  go_wp2_with fail
  refine (clone_means la k c l w HM.out hk).mono ?_
  rintro e w2 ⟨la', k', c', rfl, hk', hb2, ho⟩
  have HB2 := Lib.hid hb2
  have HO := Lib.hid ho
  clear hb2 ho
  go_wp2_with fail
  go_ret
  exact ⟨la', k', c', rfl, hk', HB2.out, HO.out⟩
end Go.Proofs.YtgpmhaeiccljaaaDoor
namespace Go.Proofs.YtgpmhaeiccljaaaDoor
open Go.RowKit Go.IntWalk

/-- The reference's refunds in memory. -/
def RefAtR (w : World) (B g : Nat) (l : List MeanT) : Prop :=
  ∃ la k c, w.heap[g]? = some (.cells #[.slice la k c] 61 (0, 0)) ∧ B ≤ g ∧ OwnRecs MeanE w B 46 la k l

theorem rleft_any (B g : Nat) (l : List MeanT) (w : World) (h : RefAtR w B g l) :
    Calls Tryd.prog 20 #[.pointer (some ⟨g, 0, none⟩)] w fun e w' => w = w' ∧ ∃ la k c', e = .returned (.slice la k c') ∧ OwnRecs MeanE w B 46 la k l := by
  obtain ⟨la, k, c, hb, _, ho⟩ := h
  have x0 : w.cell? ⟨g, 0, none⟩ = some (.slice la k c) := by rw [cell_of_row _ _ _ _ _ _ hb]; rfl
  have HO := Lib.hid ho
  clear hb ho
  go_enter Tryd.func20, Tryd.ntmps20
  go_wp2_with fail
  go_ret
  exact ⟨rfl, la, k, c, rfl, HO.out⟩
end Go.Proofs.YtgpmhaeiccljaaaDoor
