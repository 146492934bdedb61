/- SortStableFunc at []int: a permutation, in the order that the comparison and the first places give. -/
import Derived.Test.YtiapfpdkcdhhoaaDoorSort7
namespace Go.Proofs.YtiapfpdkcdhhoaaDoor
open Go.RowKit

set_option maxHeartbeats 400000 in
theorem sortStable_any (f : Nat) (cap : Array Value) (cf : Int → Int → Int) (dom : Int → Prop) (prec : Int → Int → Prop) (g T c l : Nat) (D : List Int) (w : World)
    (hcf : ∀ (args : Array Value) (w : World), (callFunc f args).run Tryd.prog w = .ok (.enter f args) w)
    (hcmp : CmpAt f cap cf dom g w) (htr : ∀ x y z, prec x y → prec y z → prec x z) (hl : l = D.length) (hD : l ≤ 4000) (hR : IntRow w g T D) (hdom : ∀ x ∈ D, dom x) (hok : D.Pairwise (Ok cf prec)) :
    Calls Tryd.prog 30 #[.slice (some ⟨g, 0, none⟩) l c, .func (.func f) #[] cap] w
      fun e w' => e = .returned (.tuple #[]) ∧ w.grownBy w' (some g) ∧ ∃ D', IntRow w' g T D' ∧ D'.Perm D ∧ D'.Pairwise prec := by
  have H := Lib.hid (stable_any f cap cf dom prec g T c l D w hcf hcmp htr hl hD hR hdom hok)
  clear hcmp htr hl hR hdom hok
  go_enter Tryd.func30, Tryd.ntmps30
  go_wp2_with fail
  refine H.out.mono ?_
  rintro e w1 ⟨rfl, hg, hx⟩
  have HX := Lib.hid hx; clear hx
  go_wp2
  go_end0
  exact ⟨rfl, hg, HX.out⟩

set_option maxHeartbeats 400000 in
theorem sortStable_none (f : Nat) (cap : Array Value) (ra : Option Addr) (c : Nat) (w : World) :
    Calls Tryd.prog 30 #[.slice ra 0 c, .func (.func f) #[] cap] w fun e w' => e = .returned (.tuple #[]) ∧ w = w' := by
  go_enter Tryd.func30, Tryd.ntmps30
  go_wp2_with fail
  have hs : Calls Tryd.prog 40 #[.slice ra 0 c, .int .i64 0, .func (.func f) #[] cap] w fun e w' => e = .returned (.tuple #[]) ∧ w = w' := by
    go_enter Tryd.func40, Tryd.ntmps40
    go_wp2
    refine wp_loop_rounds 1 ?_
    rw [rounds_succ]
    go_wp2_with fail
    refine (insertion_none f cap _ 0 (by omega) w).mono ?_
    rintro e w1 ⟨rfl, rfl⟩
    go_wp2
    refine wp_loop_rounds 1 ?_
    rw [rounds_succ]
    go_wp2
    go_end0
    exact ⟨rfl, rfl⟩
  refine hs.mono ?_
  rintro e w1 ⟨rfl, rfl⟩
  go_wp2
  go_end0
  exact ⟨rfl, rfl⟩
end Go.Proofs.YtiapfpdkcdhhoaaDoor
