/- What a row's list of variables gives the walks of money. -/
import Derived.Test.YtiapfpdkcdhhoaaDoorCards
import Derived.Test.YtiapfpdkcdhhoaaDoorTie
import Derived.Test.YtiapfpdkcdhhoaaDoorMP
import Derived.ProofKit
import Derived.OpenShut
import Derived.Deep.DeepHandedRow
import Derived.Lib.LaidTab
import Derived.LaidMore
import Derived.LaidLaws
import Derived.MakeChecks
import Derived.Shelf.Vars
import Derived.Lay
namespace Go.Proofs.YtiapfpdkcdhhoaaDoor
open Go.ChangeShapes Go.WideShapes Go.ChangeAt Go.RowKit

theorem err_cell {P : Program} {W : World} {n nm : String} {d : DataW Unit} {g ti : Nat} {ms : Array (String × TypeId)} {r : List (String × DataW Unit)} {ps : List MemPlace} (hg : P.globalNamed n = some g) (ht : (P.globals[g]?).map (·.type) = some ti) (hi : P.underlying ti = some (.interface ms))
    (h : DataW.LaidVars P W ((n, .iface nm d) :: r) ps) : ∃ tp p, W.cell? ⟨g, 0, none⟩ = some (.iface tp p) := by
  obtain ⟨g', t', cs, fuel, p, q, hg', ht', hv, hd, _, _⟩ := h
  obtain rfl := Option.some.inj (hg.symm.trans hg')
  obtain rfl := Option.some.inj (ht.symm.trans ht')
  obtain ⟨_, u, v, hcs, _, _⟩ := iface_of_trod hi hd
  refine ⟨u, v, ?_⟩
  rw [World.var?_cell hg hv 0]
  have : cs.toList[0]? = some (.iface u v) := by rw [hcs]; rfl
  simpa using this

theorem laid_next {P : Program} {W : World} {x : String × DataW Unit} {r : List (String × DataW Unit)} {ps : List MemPlace} (h : DataW.LaidVars P W (x :: r) ps) : ∃ q, DataW.LaidVars P W r q := by
  obtain ⟨_, _, _, _, _, q, _, _, _, _, hr, _⟩ := h
  exact ⟨q, hr⟩

set_option maxRecDepth 100000 in
theorem kit_of {W : World} (h : laidMetH Tryd.prog Rows.moneySharesRow.laid W) (hs : W.ShapedOpen Tryd.prog) : Kit W := by
  rw [MakeChecks.laidMetH_plain _ _ _ (by kernel_rfl)] at h
  obtain ⟨ps, h1, _⟩ := h
  obtain ⟨_, h2⟩ := laid_next h1
  obtain ⟨_, h3⟩ := laid_next h2
  obtain ⟨_, h4⟩ := laid_next h3
  obtain ⟨_, h5⟩ := laid_next h4
  obtain ⟨_, h6⟩ := laid_next h5
  refine ⟨?_, ?_, ?_, ?_⟩
  · obtain ⟨g', t', cs, fuel, p, q, hg', ht', hvar, hd, _, _⟩ := h3
    obtain rfl := Option.some.inj ((by kernel_rfl : Tryd.prog.globalNamed "internal/strconv.uint64pow10" = some 5).symm.trans hg')
    unfold Lib.TabIs
    rw [hvar, ← Lib.cells_of_tab (zs := Lib.pow10Tab) (k := .u64) (n := 20) (e := 84) ?_ Tryd.underlying84 (by kernel_rfl) ?_ hd]
    · have := Option.some.inj ((by kernel_rfl : (Tryd.prog.globals[5]?).map (·.type) = some 103).symm.trans ht')
      rw [← this]
      exact Tryd.underlying103
    · have := Option.some.inj ((by kernel_rfl : (Tryd.prog.globals[5]?).map (·.type) = some 103).symm.trans ht')
      rw [← this]
      exact (by kernel_rfl : Tryd.prog.cellsOf 103 = 20)
  · exact cell_of_shapedOpen_int (k := .i64) (t := 3) (zero := #[.int .i64 0]) hs (of_decide_eq_true (by kernel_rfl)) (by kernel_rfl) rfl (by kernel_rfl) (by kernel_rfl) Tryd.underlying3
  · exact err_cell (by kernel_rfl) (by kernel_rfl) Tryd.underlying50 h6
  · exact err_cell (by kernel_rfl) (by kernel_rfl) Tryd.underlying50 h5
end Go.Proofs.YtiapfpdkcdhhoaaDoor
