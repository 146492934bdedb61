/- What a row's list of variables gives the walks of pack; What an argument's reading gives the walks of pack: a problem, a packing, bytes; the witness of a row that lists variables. -/
import Derived.Test.YthabgljdndbphaaGreatDoorQPKM07
import Derived.Test.YthabgljdndbphaaGreatDoorQPKM21
import Derived.Test.YthabgljdndbphaaGreatDoorCards
import Derived.Test.YthabgljdndbphaaGreatDoorTie
import Derived.ProofKit
import Derived.OpenShut
import Derived.Deep.DeepHandedRow
import Derived.Lib.LaidTab
import Derived.LaidMore
import Derived.LaidLaws
import Derived.MakeChecks
import Derived.Shelf.Vars
import Derived.Lay
import Derived.Test.YthabgljdndbphaaGreatDoorRows
import Derived.ChangeOld
import Derived.Below
import Derived.Deep.SlicePairs
import Derived.Lib.SmallJoins
import Derived.ChangeMaps5

set_option linter.unusedVariables false
set_option linter.unusedSimpArgs false
namespace Go.Proofs.YthabgljdndbphaaGreatDoor
open Go.ChangeShapes Go.WideShapes Go.ChangeAt Go.RowKit

theorem laid_next {P : Program} {W : World} {x : String × DataW Unit} {r : List (String × DataW Unit)} {ps : List MemPlace} (h : DataW.LaidVars P W (x :: r) ps) : ∃ q, DataW.LaidVars P W r q := by
 obtain ⟨_, _, _, _, _, q, _, _, _, _, hr, _⟩ := h
 exact ⟨q, hr⟩

set_option maxRecDepth 100000 in
theorem kit_of {W : World} (h : laidMetH Tryz.prog Rows.packProvedRow.laid W) : PKit W := by
 rw [MakeChecks.laidMetH_plain _ _ _ (by kernel_rfl)] at h
 obtain ⟨ps, h1, _⟩ := h
 obtain ⟨_, h2⟩ := laid_next h1
 obtain ⟨_, h3⟩ := laid_next h2
 obtain ⟨g', t', cs, fuel, p, q, hg', ht', hvar, hd, _, _⟩ := h3
 obtain rfl := Option.some.inj ((by kernel_rfl : Tryz.prog.globalNamed "internal/strconv.uint64pow10" = some 0).symm.trans hg')
 unfold PKit Lib.TabIs
 rw [hvar, ← Lib.cells_of_tab (zs := Lib.pow10Tab) (k := .u64) (n := 20) (e := 121) ?_ Tryz.underlying121 (by kernel_rfl) ?_ hd]
 ·
  have := Option.some.inj ((by kernel_rfl : (Tryz.prog.globals[0]?).map (·.type) = some 169).symm.trans ht')
  rw [← this]
  exact Tryz.underlying169
 ·
  have := Option.some.inj ((by kernel_rfl : (Tryz.prog.globals[0]?).map (·.type) = some 169).symm.trans ht')
  rw [← this]
  exact (by kernel_rfl : Tryz.prog.cellsOf 169 = 20)
end Go.Proofs.YthabgljdndbphaaGreatDoor

namespace Go.Proofs.YthabgljdndbphaaGreatDoor
open Go.ChangeShapes Go.WideShapes Go.ChangeAt Go.RowKit Go.Deep Go.Joins

section
variable {H : Type} {enc : TypeId × Value → H} {w : World} {base : Nat} {held : Bool}

theorem add_whole (b o k : Nat) : (⟨b, o, none⟩ : Addr).add k = ⟨b, o + k, none⟩ := by
 unfold Addr.add; split
 ·
  subst_vars; rfl
 ·
  rfl

theorem whole_of {b o : Nat} {s} {v : Value} (h : w.cell? ((Addr.mk b o s).add 0) = some v) : s = none := by
 simpa [Addr.add] using World.cell?_spot h

def num : Value → Int
 | .int _ n => n
 | _ => 0

theorem ints_read {fuel : Nat} {v : Value} {x : DataW H × List MemPlace} (h : DataW.trod enc Tryz.prog w base (fun _ => true) held fuel 22 [v] = some x) :
  ∃ (ra : Option Addr) (n c : Nat) (R : List Int), v = .slice ra n c ∧ n ≤ 9223372036854775807 ∧ (ra = none → c = 0) ∧ Ints w ra n R := by
 rcases open_ints Tryz.underlying22 Tryz.underlying3 (by kernel_rfl) h with ⟨hcs, _⟩ | ⟨x, l, c, zs, hcs, _, hl, hm, hz, _, hcell, hwz⟩
 ·
  simp at hcs
  subst hcs
  exact ⟨none, 0, 0, [], rfl, by omega, fun _ => rfl, rfl, fun k hk => absurd hk (by omega)⟩
 ·
  simp at hcs
  subst hcs
  obtain ⟨b, o, s⟩ := x
  have hz' : zs.length = c := by simpa using hz
  unfold maxLen at hm
  refine ⟨some ⟨b, o, s⟩, l, c, zs.take l, rfl, by omega, fun e => by simp at e, by rw [List.length_take]; omega, fun k hk => ?_⟩
  have hc := hcell k (by omega)
  have hs : s = none := whole_of (hcell 0 (by omega))
  subst hs
  refine ⟨b, o, rfl, ?_⟩
  have e : ix (zs.take l) k = zs.getD k 0 := by unfold ix; simp [List.getD, hk]
  rw [e]
  exact (add_whole b o k) ▸ hc

theorem pairs_read {fuel : Nat} {v : Value} {x : DataW H × List MemPlace} (h : DataW.trod enc Tryz.prog w base (fun _ => true) held fuel 23 [v] = some x) :
  ∃ (ra : Option Addr) (n c : Nat) (G : List (Int × Int)), v = .slice ra n c ∧ n ≤ 9223372036854775807 ∧ (ra = none → c = 0) ∧ Pairs w ra n G ∧ n ≤ c := by
 rcases open_slice_pairs Tryz.underlying23 Tryz.underlying49 (by kernel_rfl) rfl rfl (by kernel_rfl) (by kernel_rfl) h with ⟨hcs, _⟩ | ⟨x, l, c, m, n, V0, V1, D0, D1, P0, P1, hcs, _, hl, hm, hmm, _, hcell⟩
 ·
  simp at hcs
  subst hcs
  exact ⟨none, 0, 0, [], rfl, by omega, fun _ => rfl, ⟨rfl, fun k hk => absurd hk (by omega)⟩, Nat.le_refl _⟩
 ·
  simp at hcs
  subst hcs
  obtain ⟨b, o, s⟩ := x
  have hm' : m = c := by simpa using hmm
  subst hm'
  unfold maxLen at hm
  refine ⟨some ⟨b, o, s⟩, l, m, (List.range l).map fun i => (num (V0 i), num (V1 i)), rfl, by omega, fun e => by simp at e, ⟨by simp, fun k hk => ?_⟩, by omega⟩
  obtain ⟨c0, c1, t0, t1⟩ := hcell k (by omega)
  obtain ⟨n0, e0, _⟩ := DataW.trod_int Tryz.underlying3 t0
  obtain ⟨n1, e1, _⟩ := DataW.trod_int Tryz.underlying3 t1
  simp at e0 e1
  have hs : s = none := by
   obtain ⟨z0, _⟩ := hcell 0 (by omega)
   exact whole_of z0
  subst hs
  have g0 : gs ((List.range l).map fun i => (num (V0 i), num (V1 i))) k = n0 := by unfold gs; simp [List.getD, hk, e0, num]
  have g1 : gv ((List.range l).map fun i => (num (V0 i), num (V1 i))) k = n1 := by unfold gv; simp [List.getD, hk, e1, num]
  refine ⟨b, o, rfl, ?_, ?_⟩
  ·
   rw [g0, ← e0]; exact (add_whole b o (k * 2)) ▸ c0
  ·
   rw [g1, ← e1]; exact (add_whole b o (k * 2 + 1)) ▸ c1

set_option maxRecDepth 100000 in
/-- The argument of type Problem: its three fields. -/
theorem problem_read {r : Reach} {b0 : Nat} {v : Value} {d : DataW H} {p : List MemPlace} (hv : Value.okWide Tryz.prog w r b0 25 v)
  (h : DataW.Trod enc Tryz.prog w base (fun _ => true) held 25 v d p) :
  ∃ (ra : Option Addr) (n c : Nat) (ga : Option Addr) (m e : Nat) (single : Bool) (R : List Int) (G : List (Int × Int)), v = .agg #[.slice ra n c, .slice ga m e, .bool single] ∧
   n ≤ 9223372036854775807 ∧ m ≤ 9223372036854775807 ∧ Ints w ra n R ∧ Pairs w ga m G ∧ (ra = none → c = 0) ∧ (ga = none → e = 0) ∧ m ≤ e := by
 obtain ⟨v0, v1, v2, y0, y1, y2, n, rfl, _, _, h0, h1, h2⟩ := open_agg3 Tryz.underlying25 (by kernel_rfl) (by kernel_rfl) hv h
 obtain ⟨ra, n0, c, R, rfl, hn, hc, hR⟩ := ints_read h0
 obtain ⟨ga, m, e, G, rfl, hm, he, hG, hme⟩ := pairs_read h1
 obtain ⟨q, e2, _⟩ := DataW.trod_bool Tryz.underlying4 h2
 simp at e2
 subst e2
 exact ⟨ra, n0, c, ga, m, e, q, R, G, rfl, hn, hm, hR, hG, hc, he, hme⟩

end

theorem witness_shaped {H : Type} {enc : TypeId × Value → H} {C : Checked} {os : Os} {f : FuncId} {fn : Func} {s : OpenSpec} {conds : List PathCond} {apart : Bool} {laid : List (String × DataW Unit)} (modest : Bool) (w0 : World) (args : Array Value) (hos : w0.os = os)
  (hsh : (w0.forCall (fun _ _ => 0) ⟨#[], args, []⟩).Shaped C.prog)
  (hok : Input.okWideB C.prog (w0.forCall (fun _ _ => 0) ⟨#[], args, []⟩) f ⟨#[], args, []⟩ = true)
  (hrow : s.preRow enc C.prog fn conds apart laid (w0.forCall (fun _ _ => 0) ⟨#[], args, []⟩).memory args) :
  ∃ (w : World) (tape : Tape) (i : Input), w.os = os ∧ (w.forCall tape i).Shaped C.prog ∧ i.vars = [] ∧ Input.okWide C.prog (w.forCall tape i) .any w.heap.size f i ∧
   s.preRow enc C.prog fn conds apart laid (w.forCall tape i).memory i.args ∧ ({ modest := modest } : Assume).holds C.prog (lone (Frame.enter C.prog f i.args .normal) [] (w.forCall tape i)) :=
 ⟨w0, fun _ _ => 0, ⟨#[], args, []⟩, hos, hsh, (Input.okWide_of_okWideB (base := 0) hok).1, (Input.okWide_of_okWideB hok).2, hrow, by
  simp only [Assume.holds]
  exact ⟨by simp, by simp, fun _ => Modest.zero, by simp, by simp⟩⟩
end Go.Proofs.YthabgljdndbphaaGreatDoor
