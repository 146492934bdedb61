/- Strings as lists of bytes. -/
import Derived.Test.YtpmoelkblngamaaBase
namespace Go.Proofs.Ytpmoelkblngamaa
open Go.RowKit

def bs (l : List UInt8) : ByteArray := ⟨l.toArray⟩

theorem bs_size (l : List UInt8) : (bs l).size = l.length := by show l.toArray.size = _; simp

theorem bs_inj {x y : List UInt8} : bs x = bs y ↔ x = y := by
  constructor
  · intro h
    have h2 : (bs x).data.toList = (bs y).data.toList := by rw [h]
    simpa [bs] using h2
  · intro h; rw [h]

theorem bs_list (x : List UInt8) : (bs x).data.toList = x := by show x.toArray.toList = x; simp

theorem bs_toList (x : List UInt8) : (bs x).toList = x := by rw [ByteArray.toList_eq]; exact bs_list x

theorem bs_beq (x y : List UInt8) : ((bs x).toList == (bs y).toList) = decide (x = y) := by
  rw [bs_toList, bs_toList]
  by_cases h : x = y
  · subst h; simp
  · simp [h]

theorem bs_of (s : ByteArray) : s = bs s.data.toList := by unfold bs; simp
end Go.Proofs.Ytpmoelkblngamaa
