/- What a row's list of variables gives the walks of pack; What an argument's reading gives the walks of pack: a problem, a packing, bytes; the witness of a row that lists variables. -/
import Derived.Test.YthabgljdndbphaaGreatDoorQPKL03
import Derived.Test.YthabgljdndbphaaGreatDoorQPKL23
import Derived.Test.YthabgljdndbphaaGreatDoorCards
import Derived.Test.YthabgljdndbphaaGreatDoorTie
import Derived.ProofKit
import Derived.OpenShut
import Derived.Deep.DeepHandedRow
import Derived.Lib.LaidTab
import Derived.LaidMore
import Derived.LaidLaws
import Derived.MakeChecks
import Derived.Shelf.Vars
import Derived.Lay
import Derived.Test.YthabgljdndbphaaGreatDoorRows
import Derived.ChangeOld
import Derived.Below
import Derived.Deep.SlicePairs
import Derived.Lib.SmallJoins
import Derived.ChangeMaps5

set_option linter.unusedVariables false
set_option linter.unusedSimpArgs false
namespace Go.Proofs.YthabgljdndbphaaGreatDoor
open Go.ChangeShapes Go.WideShapes Go.ChangeAt Go.RowKit

theorem laid_next {P : Program} {W : World} {x : String × DataW Unit} {r : List (String × DataW Unit)} {ps : List MemPlace} (h : DataW.LaidVars P W (x :: r) ps) : ∃ q, DataW.LaidVars P W r q := by
 obtain ⟨_, _, _, _, _, q, _, _, _, _, hr, _⟩ := h
 exact ⟨q, hr⟩

set_option maxRecDepth 100000 in
theorem kit_of {W : World} (h : laidMetH Tryz.prog Rows.packProvedRow.laid W) : PKit W := by
 rw [MakeChecks.laidMetH_plain _ _ _ (by kernel_rfl)] at h
 obtain ⟨ps, h1, _⟩ := h
 obtain ⟨_, h2⟩ := laid_next h1
 obtain ⟨_, h3⟩ := laid_next h2
 obtain ⟨g', t', cs, fuel, p, q, hg', ht', hvar, hd, _, _⟩ := h3
 obtain rfl := Option.some.inj ((by kernel_rfl : Tryz.prog.globalNamed "internal/strconv.uint64pow10" = some 0).symm.trans hg')
 unfold PKit Lib.TabIs
 rw [hvar, ← Lib.cells_of_tab (zs := Lib.pow10Tab) (k := .u64) (n := 20) (e := 121) ?_ Tryz.underlying121 (by kernel_rfl) ?_ hd]
 ·
  have := Option.some.inj ((by kernel_rfl : (Tryz.prog.globals[0]?).map (·.type) = some 169).symm.trans ht')
  rw [← this]
  exact Tryz.underlying169
 ·
  have := Option.some.inj ((by kernel_rfl : (Tryz.prog.globals[0]?).map (·.type) = some 169).symm.trans ht')
  rw [← this]
  exact (by kernel_rfl : Tryz.prog.cellsOf 169 = 20)
end Go.Proofs.YthabgljdndbphaaGreatDoor

namespace Go.Proofs.YthabgljdndbphaaGreatDoor
open Go.ChangeShapes Go.WideShapes Go.ChangeAt Go.RowKit Go.Deep Go.Joins

section
variable {H : Type} {enc : TypeId × Value → H} {w : World} {base : Nat} {held : Bool}



def num : Value → Int
 | .int _ n => n
 | _ => 0




end

theorem witness_shaped {H : Type} {enc : TypeId × Value → H} {C : Checked} {os : Os} {f : FuncId} {fn : Func} {s : OpenSpec} {conds : List PathCond} {apart : Bool} {laid : List (String × DataW Unit)} (modest : Bool) (w0 : World) (args : Array Value) (hos : w0.os = os)
  (hsh : (w0.forCall (fun _ _ => 0) ⟨#[], args, []⟩).Shaped C.prog)
  (hok : Input.okWideB C.prog (w0.forCall (fun _ _ => 0) ⟨#[], args, []⟩) f ⟨#[], args, []⟩ = true)
  (hrow : s.preRow enc C.prog fn conds apart laid (w0.forCall (fun _ _ => 0) ⟨#[], args, []⟩).memory args) :
  ∃ (w : World) (tape : Tape) (i : Input), w.os = os ∧ (w.forCall tape i).Shaped C.prog ∧ i.vars = [] ∧ Input.okWide C.prog (w.forCall tape i) .any w.heap.size f i ∧
   s.preRow enc C.prog fn conds apart laid (w.forCall tape i).memory i.args ∧ ({ modest := modest } : Assume).holds C.prog (lone (Frame.enter C.prog f i.args .normal) [] (w.forCall tape i)) :=
 ⟨w0, fun _ _ => 0, ⟨#[], args, []⟩, hos, hsh, (Input.okWide_of_okWideB (base := 0) hok).1, (Input.okWide_of_okWideB hok).2, hrow, by
  simp only [Assume.holds]
  exact ⟨by simp, by simp, fun _ => Modest.zero, by simp, by simp⟩⟩
end Go.Proofs.YthabgljdndbphaaGreatDoor
