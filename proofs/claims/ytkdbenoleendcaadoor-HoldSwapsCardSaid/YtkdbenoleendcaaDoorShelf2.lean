/- maps.Keys and slices.Sorted at this program: laid. -/
import Derived.Shelf.SlIterI.Nil
import Derived.Test.YtkdbenoleendcaaDoorShelf
namespace Go.Proofs.YtkdbenoleendcaaDoor
open Go.Shelf Go.Proofs

def Tryd.keysH_ren : Go.Shelf.Ren := ⟨fun | 7 => 31 | 10 => 43 | n => n, fun | 23 => 61 | 26 => 3 | 3 => 33 | 28 => 66 | 0 => 0 | 27 => 65 | 33 => 75 | 4 => 4 | n => n, fun | n => n⟩
theorem Tryd.keysH : Go.Proofs.SlLaysZI.n7 Tryd.prog Tryd.keysH_ren where
  mixed := by kernel_rfl
  f7 := ⟨"maps.Keys[map[int]foyer/api.Hold,int,foyer/api.Hold]", by decide, Tryd.func31.trans (congrArg some (by kernel_rfl))⟩
  f10 := ⟨"maps.Keys[map[int]foyer/api.Hold,int,foyer/api.Hold]$1", by decide, Tryd.func43.trans (congrArg some (by kernel_rfl))⟩
  t0 := Tryd.underlying0
  a0 := Tryd.isAgg0
  z0 := Tryd.sizeOf0
  v0 := Tryd.zeroValue0
  t4 := Tryd.underlying4
  a4 := Tryd.isAgg4
  z4 := Tryd.sizeOf4
  v4 := Tryd.zeroValue4
  t23 := Tryd.underlying61
  a23 := Tryd.isAgg61
  z23 := Tryd.sizeOf61
  v23 := Tryd.zeroValue61
  t26 := Tryd.underlying3
  a26 := Tryd.isAgg3
  z26 := Tryd.sizeOf3
  v26 := Tryd.zeroValue3
  t27 := Tryd.underlying65
  a27 := Tryd.isAgg65
  z27 := Tryd.sizeOf65
  v27 := Tryd.zeroValue65
  t28 := Tryd.underlying66
  a28 := Tryd.isAgg66
  z28 := Tryd.sizeOf66
  v28 := Tryd.zeroValue66
  t33 := Tryd.underlying75
  a33 := Tryd.isAgg75
  z33 := Tryd.sizeOf75
  v33 := Tryd.zeroValue75
def Tryd.sortedH_ren : Go.Shelf.Ren := ⟨fun | 6 => 30 | 8 => 42 | 9 => 34 | 11 => 49 | 13 => 46 | 12 => 45 | 23 => 59 | 24 => 60 | 14 => 50 | 15 => 51 | 16 => 52 | 17 => 53 | 18 => 54 | 19 => 55 | 20 => 56 | 21 => 57 | 22 => 58 | 25 => 62 | 26 => 63 | 27 => 64 | 28 => 65 | 29 => 66 | 30 => 67 | 31 => 72 | n => n, fun | 26 => 3 | 28 => 66 | 24 => 31 | 0 => 0 | 3 => 3 | 37 => 79 | 48 => 98 | 50 => 100 | 4 => 4 | 40 => 90 | 39 => 89 | 45 => 95 | 5 => 5 | 9 => 9 | 51 => 106 | 55 => 110 | 57 => 120 | 58 => 121 | 33 => 75 | n => n, fun | n => n⟩
theorem Tryd.sortedH : Go.Proofs.SlLaysZI.n6 Tryd.prog Tryd.sortedH_ren where
  mixed := by kernel_rfl
  f6 := ⟨"slices.Sorted[int]", by decide, Tryd.func30.trans (congrArg some (by kernel_rfl))⟩
  f8 := ⟨"slices.Collect[int]", by decide, Tryd.func42.trans (congrArg some (by kernel_rfl))⟩
  f11 := ⟨"slices.AppendSeq[[]int,int]", by decide, Tryd.func49.trans (congrArg some (by kernel_rfl))⟩
  t0 := Tryd.underlying0
  a0 := Tryd.isAgg0
  z0 := Tryd.sizeOf0
  v0 := Tryd.zeroValue0
  t24 := Tryd.underlying31
  a24 := Tryd.isAgg31
  z24 := Tryd.sizeOf31
  v24 := Tryd.zeroValue31
  t26 := Tryd.underlying3
  a26 := Tryd.isAgg3
  z26 := Tryd.sizeOf3
  v26 := Tryd.zeroValue3
  t28 := Tryd.underlying66
  a28 := Tryd.isAgg66
  z28 := Tryd.sizeOf66
  v28 := Tryd.zeroValue66
  i26 := by kernel_rfl
end Go.Proofs.YtkdbenoleendcaaDoor
