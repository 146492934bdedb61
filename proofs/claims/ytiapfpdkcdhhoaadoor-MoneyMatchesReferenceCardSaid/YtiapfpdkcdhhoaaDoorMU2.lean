/- Closed texts of money. -/
import Derived.Test.YtiapfpdkcdhhoaaDoorMP
import Derived.Test.YtiapfpdkcdhhoaaDoorMX
namespace Go.Proofs.YtiapfpdkcdhhoaaDoor
open Go.RowKit

theorem t1205 : textS 1205 = [49, 50, 46, 48, 53] := by
  simp [textS, Amt, Lib.decDigits, twoS]
theorem tm50 : textS (-50) = [45, 48, 46, 53, 48] := by
  simp [textS, Amt, Lib.decDigits, twoS]
theorem t0 : textS 0 = [48, 46, 48, 48] := by
  simp [textS, Amt, Lib.decDigits, twoS]
theorem p1205 : parseV [49, 50, 46, 48, 53] = (1205, 0) := by
  unfold parseV
  rw [(parse_iff _ 1205).mpr ⟨by unfold Amt; omega, t1205⟩]
theorem pm0 : parseV [45, 48, 46, 48, 48] = (0, 4) := by
  unfold parseV
  cases h : parseS [45, 48, 46, 48, 48] with
  | none => rfl
  | some b =>
    obtain ⟨h1, h2⟩ := (parse_iff _ b).mp h
    have hs := scan_text h1
    rw [h2] at hs
    have : scanS 0 [45, 48, 46, 48, 48] = 0 := by decide
    rw [this] at hs
    obtain rfl : b = 0 := by omega
    rw [t0] at h2
    simp at h2
end Go.Proofs.YtiapfpdkcdhhoaaDoor
