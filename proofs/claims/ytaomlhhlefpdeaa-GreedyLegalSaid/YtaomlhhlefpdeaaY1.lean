/- slices.SortFunc at a row of spots, by where they begin. -/
import Derived.Test.YtaomlhhlefpdeaaY0
import Derived.Test.YtaomlhhlefpdeaaX1
import Derived.Shelf.SlSortCmp.WholeK
import Derived.Shelf.SlSortCmp.NoneTotal
import Derived.Shelf.Lay
import Derived.Ground.SlsfProg
namespace Go.Proofs.Ytaomlhhlefpdeaa
open Go.Shelf Go.RowKit Go.Lib Go.Sort Go.Proofs
shelf_lay_g SlLaysF0.n6 Slsf 6 at Try 44 as Try.sortSpot

set_option maxHeartbeats 1000000 in
theorem legal1_any (x y : PX) (w : World) : Calls Try.prog 45 #[.agg (encX x).toArray, .agg (encX y).toArray] w fun e w' => e = .returned (.int .i64 (cfX x y)) ∧ ∃ q os', w' = grow (w.drewN q) os' := by
  obtain ⟨⟨a, b⟩, h1⟩ := x
  obtain ⟨⟨c, d⟩, h2⟩ := y
  unfold cfX encX
  dsimp only at h1 h2 ⊢
  go_enter Try.func45, Try.ntmps45
  go_wp2_with fail
  go_ret
  exact ⟨rfl, 0, _, by rw [alloc_eq_grow, alloc_eq_grow, grow_grow]; rfl⟩

theorem legal1_lays (blk off size : Nat) (w : World) : CmpLays Try.prog 45 #[] encX 2 cfX blk off size w :=
  fun _ _ _ _ x y => legal1_any x y _

theorem enter_legal1 : ∀ (args : Array Value) (w : World), (callFunc 45 args).run Try.prog w = .ok (.enter 45 args) w := enters_of Try.func45 (by kernel_rfl) rfl

theorem sort_row (v : Value) (n B : Nat) (L : List (Int × Int)) (w : World) (hL : L.length = n) (hn : n ≤ 4000) (hb : ∀ x ∈ L, 0 ≤ x.2 ∧ x.2 ≤ 4000) (ho : w.ownsRow B 39 2 v n (pcells L)) :
    Calls Try.prog 44 #[v, .func (.func 45) #[] #[]] w fun e w' => e = .returned (.tuple #[]) ∧
      ∃ L', L'.Perm L ∧ L'.Pairwise (fun a b => a.2 ≤ b.2) ∧ w'.ownsRow B 39 2 v n (pcells L') ∧ w.grownBy w' v.ownBlock := by
  rcases ho.2 with ⟨rfl, rfl⟩ | ⟨g, cap, cur, rfl, hBg, hg, hnc, hcm, hcs, htake⟩
  · have hcon := AnyF.slices_SortFunc_none Try.sortSpot none 0 (.func (.func 45) #[] #[]) w
    change Calls Try.prog 44 _ _ _ at hcon
    refine hcon.mono ?_
    rintro e w' ⟨rfl, rfl⟩
    obtain rfl : L = [] := List.eq_nil_of_length_eq_zero hL
    exact ⟨rfl, [], List.Perm.refl _, List.Pairwise.nil, ho, ⟨rfl, rfl, rfl, Nat.le_refl _, fun _ _ _ => rfl⟩⟩
  · obtain ⟨d, hd⟩ := exists_px L hb
    have hds : d.size = n := by rw [← hL, ← hd]; simp
    have hH : HoldsK encX 2 w g 0 d := holds_row hg hds (by rw [htake, hd])
    have hglt : g < w.heap.size := (Array.getElem?_eq_some_iff.1 hg).1
    have hcon := AnyQ.slices_SortFunc Try.sortSpot 2 Try.isAgg39 Try.sizeOf39 encX (fun _ => rfl) (fun x v hv => by simp [encX] at hv; rcases hv with rfl | rfl <;> rfl) cfX swo_cfX 45 #[] g 0 cap d w enter_legal1 (legal1_lays g 0 d.size w) hH hglt (by omega)
    change Calls Try.prog 44 _ _ _ at hcon
    rw [hds] at hcon
    refine hcon.mono ?_
    rintro e w' ⟨rfl, d', m, os, hp, hs, rfl⟩
    rw [← hds] at hp hs
    have hd's : d'.size = n := by rw [hp.1, hds]
    obtain ⟨cur', h1, h2, h3⟩ := sortWorld_block (m := m) os hg hd's (by rw [hcs]; omega)
    refine ⟨rfl, d'.toList.map Subtype.val, ?_, sorted_of_in hp.1 hs, ⟨by rw [pcells_length]; simp [hd's], Or.inr ⟨g, cap, cur', rfl, hBg, h1, hnc, hcm, by rw [h2, hcs], h3⟩⟩, sortWorld_grown w g m d' os⟩
    rw [← hd]
    exact (perm_of_in hp).map _
end Go.Proofs.Ytaomlhhlefpdeaa
