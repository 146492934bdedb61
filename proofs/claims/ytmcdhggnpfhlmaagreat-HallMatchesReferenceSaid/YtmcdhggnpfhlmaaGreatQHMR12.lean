/- The shelf's contract of slices.Sort at []int at this seat, in plain words (written by the kit's lay-shelf.mjs and lay-plain.mjs for another seat, and renumbered); hall: slices.Sort at an own list of integers; hall: slices.Compact at an own list of integers (the laying: the text that the kit's command hands to Lean). -/
import Derived.Test.YtmcdhggnpfhlmaaGreatQHMR11
import Derived.Shelf.Sort.Plain
import Derived.Ground.Names2Prog
import Derived.Shelf.Slices.In.SortNone
import Derived.Test.YtmcdhggnpfhlmaaGreatProg
import Derived.Shelf.SlIterI.Nil
import Derived.Shelf.Slices.CompactI

set_option linter.unusedVariables false
set_option linter.unusedSimpArgs false
namespace Go.Proofs
open Go.Shelf
def Tryz.lays189_ren : Go.Shelf.Ren := ⟨fun | 189 => 57 | 125 => 79 | 257 => 78 | 128 => 99 | 129 => 100 | 294 => 90 | 295 => 91 | 296 => 92 | 297 => 93 | 298 => 94 | 299 => 95 | 216 => 96 | 300 => 97 | 301 => 98 | 328 => 104 | 329 => 105 | 330 => 106 | 331 => 107 | 332 => 108 | 215 => 109 | 343 => 110 | n => n, fun | 28 => 97 | 3 => 3 | 46 => 118 | 0 => 0 | 51 => 136 | 53 => 138 | 4 => 4 | 183 => 128 | 182 => 127 | 131 => 133 | 5 => 5 | 9 => 9 | 218 => 141 | 222 => 145 | 228 => 147 | 229 => 148 | n => n, fun | n => n⟩
theorem Tryz.lays189 : Go.Proofs.Lays.n189 Tryz.prog Tryz.lays189_ren := {
 mixed := by kernel_rfl
 f125 := Tryz.func79.trans (congrArg some (by kernel_rfl))
 f128 := Tryz.func99.trans (congrArg some (by kernel_rfl))
 f129 := Tryz.func100.trans (congrArg some (by kernel_rfl))
 f189 := Tryz.func57.trans (congrArg some (by kernel_rfl))
 f215 := Tryz.func109.trans (congrArg some (by kernel_rfl))
 f216 := Tryz.func96.trans (congrArg some (by kernel_rfl))
 f257 := Tryz.func78.trans (congrArg some (by kernel_rfl))
 f294 := Tryz.func90.trans (congrArg some (by kernel_rfl))
 f295 := Tryz.func91.trans (congrArg some (by kernel_rfl))
 f296 := Tryz.func92.trans (congrArg some (by kernel_rfl))
 f297 := Tryz.func93.trans (congrArg some (by kernel_rfl))
 f298 := Tryz.func94.trans (congrArg some (by kernel_rfl))
 f299 := Tryz.func95.trans (congrArg some (by kernel_rfl))
 f300 := Tryz.func97.trans (congrArg some (by kernel_rfl))
 f301 := Tryz.func98.trans (congrArg some (by kernel_rfl))
 f328 := Tryz.func104.trans (congrArg some (by kernel_rfl))
 f329 := Tryz.func105.trans (congrArg some (by kernel_rfl))
 f330 := Tryz.func106.trans (congrArg some (by kernel_rfl))
 f331 := Tryz.func107.trans (congrArg some (by kernel_rfl))
 f332 := Tryz.func108.trans (congrArg some (by kernel_rfl))
 f343 := Tryz.func110.trans (congrArg some (by kernel_rfl))
 t0 := Tryz.underlying0
 a0 := Tryz.isAgg0
 z0 := Tryz.sizeOf0
 v0 := Tryz.zeroValue0
 t3 := Tryz.underlying3
 a3 := Tryz.isAgg3
 z3 := Tryz.sizeOf3
 v3 := Tryz.zeroValue3
 t4 := Tryz.underlying4
 a4 := Tryz.isAgg4
 z4 := Tryz.sizeOf4
 v4 := Tryz.zeroValue4
 t5 := Tryz.underlying5
 a5 := Tryz.isAgg5
 z5 := Tryz.sizeOf5
 v5 := Tryz.zeroValue5
 t9 := Tryz.underlying9
 a9 := Tryz.isAgg9
 z9 := Tryz.sizeOf9
 v9 := Tryz.zeroValue9
 t28 := Tryz.underlying97
 a28 := Tryz.isAgg97
 z28 := Tryz.sizeOf97
 v28 := Tryz.zeroValue97
 t46 := Tryz.underlying118
 a46 := Tryz.isAgg118
 z46 := Tryz.sizeOf118
 v46 := Tryz.zeroValue118
 t51 := Tryz.underlying136
 a51 := Tryz.isAgg136
 z51 := Tryz.sizeOf136
 v51 := Tryz.zeroValue136
 t53 := Tryz.underlying138
 a53 := Tryz.isAgg138
 z53 := Tryz.sizeOf138
 v53 := Tryz.zeroValue138
 t131 := Tryz.underlying133
 a131 := Tryz.isAgg133
 z131 := Tryz.sizeOf133
 v131 := Tryz.zeroValue133
 t182 := Tryz.underlying127
 a182 := Tryz.isAgg127
 z182 := Tryz.sizeOf127
 v182 := Tryz.zeroValue127
 t183 := Tryz.underlying128
 a183 := Tryz.isAgg128
 z183 := Tryz.sizeOf128
 v183 := Tryz.zeroValue128
 t218 := Tryz.underlying141
 a218 := Tryz.isAgg141
 z218 := Tryz.sizeOf141
 v218 := Tryz.zeroValue141
 t222 := Tryz.underlying145
 a222 := Tryz.isAgg145
 z222 := Tryz.sizeOf145
 v222 := Tryz.zeroValue145
 t228 := Tryz.underlying147
 a228 := Tryz.isAgg147
 z228 := Tryz.sizeOf147
 v228 := Tryz.zeroValue147
 t229 := Tryz.underlying148
 a229 := Tryz.isAgg148
 z229 := Tryz.sizeOf148
 v229 := Tryz.zeroValue148 }
open Go.Sort Go.RowKit in
theorem Tryz.slices_Sort_int (blk off cap : Nat) (zs : List Int) (w : World) (hH : Holds (Value.int .i64) w blk off zs.toArray) (hblk : blk < w.heap.size) (hsz : zs.length < 4611686018427387904) :
  Calls Tryz.prog 57 #[.slice (some ⟨blk, off, none⟩) zs.length cap] w fun e w' =>
   e = .returned (.tuple #[]) ∧ ∃ n os, w' = grow (putRow (Value.int .i64) (Sort.ahead w n) blk off (zs.mergeSort fun x y => decide (x ≤ y)).toArray) os := Any.slices_Sort_int Tryz.lays189 blk off cap zs w hH hblk hsz
open Go.RowKit Go.Sort in
theorem Tryz.slices_Sort_int_none (p : Option Addr) (cap : Nat) (w : World) :
  Calls Tryz.prog 57 #[.slice p 0 cap] w fun e w' => e = .returned (.tuple #[]) ∧ w' = w := Any.slices_Sort_int_none Tryz.lays189 p cap w
end Go.Proofs

namespace Go.Proofs.YtmcdhggnpfhlmaaGreat
open Go.RowKit Go.IntWalk Go.Maps Go.WideMaps Go.Sort

theorem sort_own (B n : Nat) (v : Value) (ss : List Int) (w : World) (hB : B ≤ w.heap.size) (hn : n ≤ 1000000) (h : w.ownsRow B 3 1 v n (ss.map (Value.int .i64))) :
  Calls Tryz.prog 57 #[v] w fun e w' => e = .returned (.tuple #[]) ∧ w'.ownsRow B 3 1 v n ((ss.mergeSort (fun x y => decide (x ≤ y))).map (Value.int .i64)) ∧ w.grownBy w' v.ownBlock := by
 have hlen : ss.length = n := by have := h.1; simpa using this
 rcases h.2 with ⟨rfl, hz⟩ | ⟨gb, cap, cur, rfl, hbase, hgb, r1, r2, r3, r4⟩
 ·
  have hss : ss = [] := List.eq_nil_of_length_eq_zero (by omega)
  subst hss
  refine (Tryz.slices_Sort_int_none none 0 w).mono ?_
  rintro e w' ⟨rfl, rfl⟩
  exact ⟨rfl, by simpa using h, grown_refl w' _⟩
 ·
  have hH : Holds encZ w gb 0 ss.toArray := holds_of_block_i hgb (by rw [hlen]; simpa using r4)
  have hgl : gb < w.heap.size := (Array.getElem?_eq_some_iff.1 hgb).1
  have hs := Tryz.slices_Sort_int gb 0 cap ss w hH hgl (by omega)
  rw [hlen] at hs
  refine hs.mono ?_
  rintro e w' ⟨rfl, k, os, rfl⟩
  refine ⟨rfl, ?_, grownBy_sorted_i _⟩
  have := ownsRow_sorted_i (n := k) (os := os) (ts := ss.mergeSort fun x y => decide (x ≤ y)) (ss := ss) (by simp) hbase hgb (by omega) r2 (by simpa using r3)
  rw [hlen] at this
  exact this

end Go.Proofs.YtmcdhggnpfhlmaaGreat

namespace Go.Proofs
open Go.Shelf
def Tryz.compactInt_ren : Go.Shelf.Ren := ⟨fun | 20 => 58 | n => n, fun | 22 => 97 | 3 => 3 | 4 => 4 | 0 => 0 | n => n, fun | n => n⟩
theorem Tryz.compactInt : Go.Proofs.Lays2.n20 Tryz.prog Tryz.compactInt_ren where
 mixed := by kernel_rfl
 f20 := Tryz.func58.trans (congrArg some (by kernel_rfl))
 t0 := Tryz.underlying0
 a0 := Tryz.isAgg0
 z0 := Tryz.sizeOf0
 v0 := Tryz.zeroValue0
 t3 := Tryz.underlying3
 a3 := Tryz.isAgg3
 z3 := Tryz.sizeOf3
 v3 := Tryz.zeroValue3
 t4 := Tryz.underlying4
 a4 := Tryz.isAgg4
 z4 := Tryz.sizeOf4
 v4 := Tryz.zeroValue4
 t22 := Tryz.underlying97
 a22 := Tryz.isAgg97
 z22 := Tryz.sizeOf97
 v22 := Tryz.zeroValue97
 i3 := by kernel_rfl
end Go.Proofs
namespace Go.Proofs.YtmcdhggnpfhlmaaGreat
open Go.RowKit Go.IntWalk Go.Maps Go.WideMaps Go.Sort

theorem own_pre {w : World} {B n c : Nat} {T : TypeId} {a : Option Addr} {xs ys : List Value} (h : w.ownsRow B T 1 (.slice a n c) n (xs ++ ys)) (hx : 0 < n) : w.ownsRow B T 1 (.slice a xs.length c) xs.length xs := by
 obtain ⟨hl, h2⟩ := h
 rcases h2 with ⟨_, hz⟩ | ⟨g, cap, cur, hv, hb, hg, hnc, hcm, hsz, ht⟩
 ·
  omega
 ·
  cases hv
  simp at hl
  refine ⟨by simp, .inr ⟨g, c, cur, rfl, hb, hg, by omega, hcm, hsz, ?_⟩⟩
  have := congrArg (List.take xs.length) ht
  rw [List.take_take, List.take_left, Nat.min_eq_left (by omega)] at this
  rw [Nat.mul_one]
  exact this

theorem compact_own (B n : Nat) (v : Value) (ss : List Int) (w : World) (hn : n ≤ 1000000) (h : w.ownsRow B 3 1 v n (ss.map (Value.int .i64))) :
  Calls Tryz.prog 58 #[v] w fun e w' => ∃ u, e = .returned u ∧ w'.ownsRow B 3 1 u (Lib.compact ss).length ((Lib.compact ss).map (Value.int .i64)) ∧ w.grownBy w' v.ownBlock ∧ (u = v ∨ u.ownBlock = v.ownBlock) := by
 have hlen : ss.length = n := by have := h.1; simpa using this
 rcases h.2 with ⟨rfl, hz⟩ | ⟨gb, cap, cur, rfl, hbase, hgb, r1, r2, r3, r4⟩
 ·
  have hss : ss = [] := List.eq_nil_of_length_eq_zero (by omega)
  subst hss
  refine (Any.slices_Compact_int_empty Tryz.compactInt none 0 w).mono ?_
  rintro e w' ⟨rfl, rfl⟩
  exact ⟨_, rfl, ⟨rfl, .inl ⟨rfl, rfl⟩⟩, grown_refl w' _, .inl rfl⟩
 ·
  have hH : Holds encZ w gb 0 ss.toArray := holds_of_block_i hgb (by rw [hlen]; simpa using r4)
  have hs := Any.slices_Compact_int Tryz.compactInt gb 0 cap ss w hH (by omega) (by omega)
  rw [hlen] at hs
  have hcl : (Lib.compact ss).length ≤ ss.length := by
   unfold Lib.compact Lib.compactUpTo
   rw [List.length_map]
   exact Nat.le_trans (List.length_filter_le _ _) (by simp)
  refine hs.mono ?_
  rintro e w' ⟨rfl, q, rfl⟩
  have hg0 := grownBy_sorted_i (w := w) (g := gb) (n := q) (os := #[]) (Lib.compact ss ++ List.replicate (n - (Lib.compact ss).length) 0).toArray
  have ho := ownsRow_sorted_i (w := w) (n := q) (os := #[]) (ts := Lib.compact ss ++ List.replicate (n - (Lib.compact ss).length) 0) (ss := ss) (by simp; omega) hbase hgb (by omega) r2 (by simpa using r3)
  have hgr : ∀ u : World, grow u #[] = u := fun u => by simp [grow]
  rw [hgr] at hg0 ho
  refine ⟨_, rfl, ?_, hg0, .inr rfl⟩
  rw [List.map_append, hlen] at ho
  by_cases hn0 : 0 < n
  ·
   have := own_pre ho hn0
   rw [List.length_map] at this
   exact this
  ·
   have hss : ss = [] := List.eq_nil_of_length_eq_zero (by omega)
   have hnz : n = 0 := by omega
   subst hss
   subst hnz
   have hc : Lib.compact ([] : List Int) = [] := rfl
   rw [hc] at ho ⊢
   exact ho
end Go.Proofs.YtmcdhggnpfhlmaaGreat
