/- hall: several$4: does a row lie in an area; hall: Build$1: the places of a row are counted; The shelf's contract of slices.Sort at []int at this seat, in plain words (written by the kit's lay-shelf.mjs and lay-plain.mjs for another seat, and renumbered); hall: slices.Sort at an own list of integers; hall: slices.Compact at an own list of integers (the laying: the text that the kit's command hands to Lean). -/
import Derived.Test.YtmcdhggnpfhlmaaQHCB17
import Derived.Test.YtmcdhggnpfhlmaaQHCB18
import Derived.Shelf.Sort.Plain
import Derived.Ground.Names2Prog
import Derived.Shelf.Slices.In.SortNone
import Derived.Test.YtmcdhggnpfhlmaaProg
import Derived.Shelf.SlIterI.Nil
import Derived.Shelf.Slices.CompactI

namespace Go.Proofs.Ytmcdhggnpfhlmaa
open Go.RowKit Go.IntWalk
set_option linter.unusedSimpArgs false
set_option linter.unusedVariables false

set_option maxRecDepth 100000 in
set_option maxHeartbeats 8000000 in
theorem inarea_any (w : World) (ar : AreaR) (rw' : RowR) (gi ga gr : Nat) (s x : Int) (b0 : Bool) (hi : w.heap[gi]? = some (.cells #[.bool b0] 4 (0, 0))) (ha : AreaIn w ga ar) (hr : RowIn w gr rw') :
    Calls Try.prog 62 #[.int .i64 s, .int .i64 x, .pointer (some ⟨gi, 0, none⟩), .pointer (some ⟨ga, 0, none⟩), .pointer (some ⟨gr, 0, none⟩)] w fun e w' => e = .returned (.tuple #[]) ∧ w'.heap[gi]? = some (.cells #[.bool (b0 || insideB ar.box x rw'.y)] 4 (0, 0)) ∧ Upd (fun i => i = gi) w w' := by
  have HI := Lib.hid hi
  have c0 : w.cell? ⟨gi, 0, none⟩ = some (.bool b0) := boxed_cell (j := 0) hi rfl
  have f0 := free_var (o := 0) hi
  obtain ⟨_, d1, d2, d3, d4, _, _⟩ := ha.cells
  obtain ⟨_, _, e2, _, _, _, _, _⟩ := hr.cells
  clear hi ha hr
  refine enter_fr (N := 16) [.int .i64 s, .int .i64 x, .pointer (some ⟨gi, 0, none⟩), .pointer (some ⟨ga, 0, none⟩), .pointer (some ⟨gr, 0, none⟩)] (Try.func62) rfl Try.ntmps62 (by rfl) (fun a hF => ?_);replace hF := hF.kp [1, 2, 3, 4] rfl
  cases b0
  · refine region_sk [0, 1, 2, 3, 4, 5, 6] [7, 8, 9] hF fun C hC => ?_;clear hF;refine zs1 2 rfl rfl ?_;refine zm rfl rfl rfl ?_;refine zs1 3 rfl rfl ?_;refine zs1 9 rfl rfl ?_;refine zm rfl rfl rfl ?_;refine zs1 4 rfl rfl ?_;refine zs1 12 rfl rfl ?_;refine hC _ (fun a hF => ?_);clear hC C;refine seq_one ?_;refine op_call [_, _, _] rfl rfl hF rfl (by kernel_rfl) ⟨rfl, rfl, rfl, trivial⟩ (fun K hK => ?_);clear hF
    refine (inside_any w ar.box x rw'.y).mono ?_
    rintro e w2 ⟨rfl, hb⟩
    have HI2 : Hid (w2.heap[gi]? = some (.cells #[.bool false] 4 (0, 0))) := (hb.block gi (lt_of_block HI.out)).trans HI.out
    have f1 := free_var (o := 0) HI2.out
    have c1 : w2.cell? ⟨gi, 0, none⟩ = some (.bool false) := boxed_cell (j := 0) HI2.out rfl
    have HUB := Lib.hid (Upd.of_below (S := fun i => i = gi) hb)
    clear c0 f0 d1 d2 d3 d4 e2 hb HI
    obtain ⟨y, hy⟩ : ∃ y, insideB ar.box x rw'.y = y := ⟨_, rfl⟩
    have HY := Lib.hid hy
    rw [hy]
    clear hy
    refine hK _ _ (fun a hF => ?_);clear hK K;refine seq_ck [8] [9] hF fun C hC => ?_;clear hF;refine zs2 8 14 rfl rfl rfl ?_;refine hC _ (fun a hF => ?_);clear hC C;refine seq_one ?_;refine zu2 2 15 rfl rfl hF rfl rfl rfl ?_;clear hF;refine fun a hF => ?_;refine seq_end ?_;replace hF := hF.kp [] rfl;(try simp only [then_exit, block_exit, block_norm, goto_norm, ↓reduceIte, Nat.reduceEqDiff]);refine end_fr (fn := Try.f62) (rs := []) rfl [] hF trivial ?_
    exact ⟨rfl, by rw [HY.out]; simpa using set_var (v := .bool y) HI2.out, HUB.out.trans (Upd.setCell _ gi 0 _ rfl)⟩
  · refine region_sk [0, 1, 2, 3, 4, 5, 6, 7, 8] [9] hF fun C hC => ?_;clear hF;refine zs1 2 rfl rfl ?_;refine zm rfl rfl rfl ?_;refine zx rfl ?_;refine zx rfl ?_;refine zx rfl ?_;refine zx rfl ?_;refine zx rfl ?_;refine zx rfl ?_;refine zs2 8 14 rfl rfl rfl ?_;refine hC _ (fun a hF => ?_);clear hC C;refine seq_one ?_;refine zu2 2 15 rfl rfl hF rfl rfl rfl ?_;clear hF;refine fun a hF => ?_;refine seq_end ?_;replace hF := hF.kp [] rfl;(try simp only [then_exit, block_exit, block_norm, goto_norm, ↓reduceIte, Nat.reduceEqDiff]);refine end_fr (fn := Try.f62) (rs := []) rfl [] hF trivial ?_
    exact ⟨rfl, by simpa using set_var (v := .bool true) HI.out, Upd.setCell _ gi 0 _ rfl⟩

theorem RowK.of_upd {g : Nat} {w w' : World} {A : Array Value} {T : TypeId} {z : Nat × Nat} (h : w.heap[g]? = some (.cells A T z)) (hT : 54 ≠ T) (hu : Upd (fun i => i = g) w w') : RowK w w' := fun _ _ _ hb => (hu.block _ (lt_of_block hb) (type_ne hb h hT)).trans hb

/-- A row's places in an area: whether one lies there. -/
theorem rowinarea_any (w0 w : World) (ar : AreaR) (rw' : RowR) (hok : RowOk rw') (gi ga gr : Nat) (hb0 : Below w0.heap.size w0 w) (hin : rw'.In w0) (hgi : w0.heap.size ≤ gi) (hi : w.heap[gi]? = some (.cells #[.bool false] 4 (0, 0))) (ha : AreaIn w ga ar) (hr : RowIn w gr rw') :
    Calls Try.prog 26 #[.agg #[.string (bs rw'.name), .int .i64 rw'.x, .int .i64 rw'.y, .int .i64 rw'.fr, .int .i64 rw'.to, .int .i64 rw'.step, .slice rw'.ma rw'.mn rw'.mc, .int .i64 rw'.at'], .func (.func 62) #[] #[.pointer (some ⟨gi, 0, none⟩), .pointer (some ⟨ga, 0, none⟩), .pointer (some ⟨gr, 0, none⟩)]] w
      fun e w' => e = .returned (.tuple #[]) ∧ w'.heap[gi]? = some (.cells #[.bool ((seatsS rw').any fun p => insideB ar.box p.2 rw'.y)] 4 (0, 0)) ∧ Upd (fun i => i = gi) w w' := by
  refine seats_any w rw' hok 62 [.pointer (some ⟨gi, 0, none⟩), .pointer (some ⟨ga, 0, none⟩), .pointer (some ⟨gr, 0, none⟩)] (by kernel_rfl)
    (fun l wx => wx.heap[gi]? = some (.cells #[.bool (l.any fun p => insideB ar.box p.2 rw'.y)] 4 (0, 0)) ∧ Upd (fun i => i = gi) w wx) ?_ ?_ ?_ ⟨hi, Upd.refl _ _⟩
  · rintro l wx ⟨_, hu⟩
    exact hin.below (Upd.below hb0 hb0.size hu (fun i e => by rw [e]; exact hgi))
  · rintro l wx w' ⟨h1, hu⟩ hb
    exact ⟨(hb.block gi (lt_of_block h1)).trans h1, hu.trans (Upd.of_below hb)⟩
  · rintro l p _ wx ⟨h1, hu⟩
    have ha1 : AreaIn wx ga ar := (hu.block ga (lt_of_block ha) (type_ne ha hi (by decide))).trans ha
    have hr1 : RowIn wx gr rw' := (hu.block gr (lt_of_block hr) (type_ne hr hi (by decide))).trans hr
    refine (inarea_any wx ar rw' gi ga gr p.1 p.2 _ h1 ha1 hr1).mono ?_
    rintro e w' ⟨rfl, h2, hu2⟩
    refine ⟨rfl, ⟨?_, hu.trans hu2⟩, RowK.of_upd h1 (by decide) hu2⟩
    rw [h2, List.any_append]
    simp
end Go.Proofs.Ytmcdhggnpfhlmaa

namespace Go.Proofs.Ytmcdhggnpfhlmaa
open Go.RowKit Go.IntWalk
set_option linter.unusedSimpArgs false
set_option linter.unusedVariables false

set_option maxRecDepth 100000 in
set_option maxHeartbeats 8000000 in
theorem count1_any (w : World) (g : Nat) (v s x : Int) (h : w.heap[g]? = some (.cells #[.int .i64 v] 3 (0, 0))) (h0 : 0 ≤ v) (h1 : v < 9223372036854775807) :
    Calls Try.prog 27 #[.int .i64 s, .int .i64 x, .pointer (some ⟨g, 0, none⟩)] w fun e w' => e = .returned (.tuple #[]) ∧ w'.heap[g]? = some (.cells #[.int .i64 (v + 1)] 3 (0, 0)) ∧ Upd (fun i => i = g) w w' := by
  have HN := Lib.hid h
  have c0 : w.cell? ⟨g, 0, none⟩ = some (.int .i64 v) := boxed_cell (j := 0) HN.out rfl
  have c1 := free_var (o := 0) HN.out
  have hws : IntKind.i64.wrap (v + 1) = v + 1 := wrap_in (by omega) (by omega)
  clear h
  refine enter_fr (N := 7) [.int .i64 s, .int .i64 x, .pointer (some ⟨g, 0, none⟩)] (Try.func27) rfl Try.ntmps27 (by rfl) (fun a hF => ?_);replace hF := hF.kp [2] rfl;refine region_sk [0, 1] [2] hF fun C hC => ?_;clear hF;refine zs1 2 rfl rfl ?_;refine zs1 5 rfl rfl ?_;refine hC _ (fun a hF => ?_);clear hC C;refine seq_one ?_;refine zu2 2 6 rfl rfl hF rfl rfl rfl ?_;clear hF;refine fun a hF => ?_;refine seq_end ?_;replace hF := hF.kp [] rfl;(try simp only [then_exit, block_exit, block_norm, goto_norm, ↓reduceIte, Nat.reduceEqDiff]);refine end_fr (fn := Try.f27) (rs := []) rfl [] hF trivial ?_
  exact ⟨rfl, set_var (v := .int .i64 (v + 1)) HN.out, Upd.setCell _ g 0 _ rfl⟩

/-- seats with it. -/
theorem count_any (w0 w : World) (rw' : RowR) (hok : RowOk rw') (g : Nat) (v : Int) (hb0 : Below w0.heap.size w0 w) (hin : rw'.In w0) (hgi : w0.heap.size ≤ g) (h : w.heap[g]? = some (.cells #[.int .i64 v] 3 (0, 0))) (h0 : 0 ≤ v) (h1 : v + (seatsS rw').length < 9223372036854775807) :
    Calls Try.prog 26 #[.agg #[.string (bs rw'.name), .int .i64 rw'.x, .int .i64 rw'.y, .int .i64 rw'.fr, .int .i64 rw'.to, .int .i64 rw'.step, .slice rw'.ma rw'.mn rw'.mc, .int .i64 rw'.at'], .func (.func 27) #[] #[.pointer (some ⟨g, 0, none⟩)]] w
      fun e w' => e = .returned (.tuple #[]) ∧ w'.heap[g]? = some (.cells #[.int .i64 (v + (seatsS rw').length)] 3 (0, 0)) ∧ Upd (fun i => i = g) w w' := by
  refine seats_any w rw' hok 27 [.pointer (some ⟨g, 0, none⟩)] (by kernel_rfl)
    (fun l wx => wx.heap[g]? = some (.cells #[.int .i64 (v + l.length)] 3 (0, 0)) ∧ Upd (fun i => i = g) w wx) ?_ ?_ ?_ ⟨by simpa using h, Upd.refl _ _⟩
  · rintro l wx ⟨_, hu⟩
    exact hin.below (Upd.below hb0 hb0.size hu (fun i e => by rw [e]; exact hgi))
  · rintro l wx w' ⟨h1, hu⟩ hb
    exact ⟨(hb.block g (lt_of_block h1)).trans h1, hu.trans (Upd.of_below hb)⟩
  · rintro l p hp wx ⟨h2, hu⟩
    have hl := hp.length_le
    rw [List.length_append] at hl
    simp at hl
    refine (count1_any wx g _ p.1 p.2 h2 (by omega) (by omega)).mono ?_
    rintro e w' ⟨rfl, h3, hu2⟩
    refine ⟨rfl, ⟨?_, hu.trans hu2⟩, RowK.of_upd h2 (by decide) hu2⟩
    rw [h3, List.length_append]
    simp [Int.add_assoc]
end Go.Proofs.Ytmcdhggnpfhlmaa

namespace Go.Proofs
open Go.Shelf
def Try.lays189_ren : Go.Shelf.Ren := ⟨fun | 189 => 59 | 125 => 74 | 257 => 73 | 128 => 87 | 129 => 88 | 294 => 78 | 295 => 79 | 296 => 80 | 297 => 81 | 298 => 82 | 299 => 83 | 216 => 84 | 300 => 85 | 301 => 86 | 328 => 90 | 329 => 91 | 330 => 92 | 331 => 93 | 332 => 94 | 215 => 95 | 343 => 96 | n => n, fun | 28 => 102 | 3 => 3 | 46 => 119 | 0 => 0 | 51 => 132 | 53 => 134 | 4 => 4 | 183 => 124 | 182 => 123 | 131 => 129 | 5 => 5 | 9 => 9 | 218 => 137 | 222 => 141 | 228 => 143 | 229 => 144 | n => n, fun | n => n⟩
theorem Try.lays189 : Go.Proofs.Lays.n189 Try.prog Try.lays189_ren := {
  mixed := by kernel_rfl
  f125 := Try.func74.trans (congrArg some (by kernel_rfl))
  f128 := Try.func87.trans (congrArg some (by kernel_rfl))
  f129 := Try.func88.trans (congrArg some (by kernel_rfl))
  f189 := Try.func59.trans (congrArg some (by kernel_rfl))
  f215 := Try.func95.trans (congrArg some (by kernel_rfl))
  f216 := Try.func84.trans (congrArg some (by kernel_rfl))
  f257 := Try.func73.trans (congrArg some (by kernel_rfl))
  f294 := Try.func78.trans (congrArg some (by kernel_rfl))
  f295 := Try.func79.trans (congrArg some (by kernel_rfl))
  f296 := Try.func80.trans (congrArg some (by kernel_rfl))
  f297 := Try.func81.trans (congrArg some (by kernel_rfl))
  f298 := Try.func82.trans (congrArg some (by kernel_rfl))
  f299 := Try.func83.trans (congrArg some (by kernel_rfl))
  f300 := Try.func85.trans (congrArg some (by kernel_rfl))
  f301 := Try.func86.trans (congrArg some (by kernel_rfl))
  f328 := Try.func90.trans (congrArg some (by kernel_rfl))
  f329 := Try.func91.trans (congrArg some (by kernel_rfl))
  f330 := Try.func92.trans (congrArg some (by kernel_rfl))
  f331 := Try.func93.trans (congrArg some (by kernel_rfl))
  f332 := Try.func94.trans (congrArg some (by kernel_rfl))
  f343 := Try.func96.trans (congrArg some (by kernel_rfl))
  t0 := Try.underlying0
  a0 := Try.isAgg0
  z0 := Try.sizeOf0
  v0 := Try.zeroValue0
  t3 := Try.underlying3
  a3 := Try.isAgg3
  z3 := Try.sizeOf3
  v3 := Try.zeroValue3
  t4 := Try.underlying4
  a4 := Try.isAgg4
  z4 := Try.sizeOf4
  v4 := Try.zeroValue4
  t5 := Try.underlying5
  a5 := Try.isAgg5
  z5 := Try.sizeOf5
  v5 := Try.zeroValue5
  t9 := Try.underlying9
  a9 := Try.isAgg9
  z9 := Try.sizeOf9
  v9 := Try.zeroValue9
  t28 := Try.underlying102
  a28 := Try.isAgg102
  z28 := Try.sizeOf102
  v28 := Try.zeroValue102
  t46 := Try.underlying119
  a46 := Try.isAgg119
  z46 := Try.sizeOf119
  v46 := Try.zeroValue119
  t51 := Try.underlying132
  a51 := Try.isAgg132
  z51 := Try.sizeOf132
  v51 := Try.zeroValue132
  t53 := Try.underlying134
  a53 := Try.isAgg134
  z53 := Try.sizeOf134
  v53 := Try.zeroValue134
  t131 := Try.underlying129
  a131 := Try.isAgg129
  z131 := Try.sizeOf129
  v131 := Try.zeroValue129
  t182 := Try.underlying123
  a182 := Try.isAgg123
  z182 := Try.sizeOf123
  v182 := Try.zeroValue123
  t183 := Try.underlying124
  a183 := Try.isAgg124
  z183 := Try.sizeOf124
  v183 := Try.zeroValue124
  t218 := Try.underlying137
  a218 := Try.isAgg137
  z218 := Try.sizeOf137
  v218 := Try.zeroValue137
  t222 := Try.underlying141
  a222 := Try.isAgg141
  z222 := Try.sizeOf141
  v222 := Try.zeroValue141
  t228 := Try.underlying143
  a228 := Try.isAgg143
  z228 := Try.sizeOf143
  v228 := Try.zeroValue143
  t229 := Try.underlying144
  a229 := Try.isAgg144
  z229 := Try.sizeOf144
  v229 := Try.zeroValue144 }
open Go.Sort Go.RowKit in
theorem Try.slices_Sort_int (blk off cap : Nat) (zs : List Int) (w : World) (hH : Holds (Value.int .i64) w blk off zs.toArray) (hblk : blk < w.heap.size) (hsz : zs.length < 4611686018427387904) :
    Calls Try.prog 59 #[.slice (some ⟨blk, off, none⟩) zs.length cap] w fun e w' =>
      e = .returned (.tuple #[]) ∧ ∃ n os, w' = grow (putRow (Value.int .i64) (Sort.ahead w n) blk off (zs.mergeSort fun x y => decide (x ≤ y)).toArray) os := Any.slices_Sort_int Try.lays189 blk off cap zs w hH hblk hsz
open Go.RowKit Go.Sort in
theorem Try.slices_Sort_int_none (p : Option Addr) (cap : Nat) (w : World) :
    Calls Try.prog 59 #[.slice p 0 cap] w fun e w' => e = .returned (.tuple #[]) ∧ w' = w := Any.slices_Sort_int_none Try.lays189 p cap w
end Go.Proofs

namespace Go.Proofs.Ytmcdhggnpfhlmaa
open Go.RowKit Go.IntWalk Go.Maps Go.WideMaps Go.Sort

theorem sort_own (B n : Nat) (v : Value) (ss : List Int) (w : World) (hB : B ≤ w.heap.size) (hn : n ≤ 1000000) (h : w.ownsRow B 3 1 v n (ss.map (Value.int .i64))) :
    Calls Try.prog 59 #[v] w fun e w' => e = .returned (.tuple #[]) ∧ w'.ownsRow B 3 1 v n ((ss.mergeSort (fun x y => decide (x ≤ y))).map (Value.int .i64)) ∧ w.grownBy w' v.ownBlock := by
  have hlen : ss.length = n := by have := h.1; simpa using this
  rcases h.2 with ⟨rfl, hz⟩ | ⟨gb, cap, cur, rfl, hbase, hgb, r1, r2, r3, r4⟩
  · have hss : ss = [] := List.eq_nil_of_length_eq_zero (by omega)
    subst hss
    refine (Try.slices_Sort_int_none none 0 w).mono ?_
    rintro e w' ⟨rfl, rfl⟩
    exact ⟨rfl, by simpa using h, grown_refl w' _⟩
  · have hH : Holds encZ w gb 0 ss.toArray := holds_of_block_i hgb (by rw [hlen]; simpa using r4)
    have hgl : gb < w.heap.size := (Array.getElem?_eq_some_iff.1 hgb).1
    have hs := Try.slices_Sort_int gb 0 cap ss w hH hgl (by omega)
    rw [hlen] at hs
    refine hs.mono ?_
    rintro e w' ⟨rfl, k, os, rfl⟩
    refine ⟨rfl, ?_, grownBy_sorted_i _⟩
    have := ownsRow_sorted_i (n := k) (os := os) (ts := ss.mergeSort fun x y => decide (x ≤ y)) (ss := ss) (by simp) hbase hgb (by omega) r2 (by simpa using r3)
    rw [hlen] at this
    exact this

end Go.Proofs.Ytmcdhggnpfhlmaa

namespace Go.Proofs
open Go.Shelf
def Try.compactInt_ren : Go.Shelf.Ren := ⟨fun | 20 => 60 | n => n, fun | 22 => 102 | 3 => 3 | 4 => 4 | 0 => 0 | n => n, fun | n => n⟩
theorem Try.compactInt : Go.Proofs.Lays2.n20 Try.prog Try.compactInt_ren where
  mixed := by kernel_rfl
  f20 := Try.func60.trans (congrArg some (by kernel_rfl))
  t0 := Try.underlying0
  a0 := Try.isAgg0
  z0 := Try.sizeOf0
  v0 := Try.zeroValue0
  t3 := Try.underlying3
  a3 := Try.isAgg3
  z3 := Try.sizeOf3
  v3 := Try.zeroValue3
  t4 := Try.underlying4
  a4 := Try.isAgg4
  z4 := Try.sizeOf4
  v4 := Try.zeroValue4
  t22 := Try.underlying102
  a22 := Try.isAgg102
  z22 := Try.sizeOf102
  v22 := Try.zeroValue102
  i3 := by kernel_rfl
end Go.Proofs
namespace Go.Proofs.Ytmcdhggnpfhlmaa
open Go.RowKit Go.IntWalk Go.Maps Go.WideMaps Go.Sort

theorem own_pre {w : World} {B n c : Nat} {T : TypeId} {a : Option Addr} {xs ys : List Value} (h : w.ownsRow B T 1 (.slice a n c) n (xs ++ ys)) (hx : 0 < n) : w.ownsRow B T 1 (.slice a xs.length c) xs.length xs := by
  obtain ⟨hl, h2⟩ := h
  rcases h2 with ⟨_, hz⟩ | ⟨g, cap, cur, hv, hb, hg, hnc, hcm, hsz, ht⟩
  · omega
  · cases hv
    simp at hl
    refine ⟨by simp, .inr ⟨g, c, cur, rfl, hb, hg, by omega, hcm, hsz, ?_⟩⟩
    have := congrArg (List.take xs.length) ht
    rw [List.take_take, List.take_left, Nat.min_eq_left (by omega)] at this
    rw [Nat.mul_one]
    exact this

theorem compact_own (B n : Nat) (v : Value) (ss : List Int) (w : World) (hn : n ≤ 1000000) (h : w.ownsRow B 3 1 v n (ss.map (Value.int .i64))) :
    Calls Try.prog 60 #[v] w fun e w' => ∃ u, e = .returned u ∧ w'.ownsRow B 3 1 u (Lib.compact ss).length ((Lib.compact ss).map (Value.int .i64)) ∧ w.grownBy w' v.ownBlock ∧ (u = v ∨ u.ownBlock = v.ownBlock) := by
  have hlen : ss.length = n := by have := h.1; simpa using this
  rcases h.2 with ⟨rfl, hz⟩ | ⟨gb, cap, cur, rfl, hbase, hgb, r1, r2, r3, r4⟩
  · have hss : ss = [] := List.eq_nil_of_length_eq_zero (by omega)
    subst hss
    refine (Any.slices_Compact_int_empty Try.compactInt none 0 w).mono ?_
    rintro e w' ⟨rfl, rfl⟩
    exact ⟨_, rfl, ⟨rfl, .inl ⟨rfl, rfl⟩⟩, grown_refl w' _, .inl rfl⟩
  · have hH : Holds encZ w gb 0 ss.toArray := holds_of_block_i hgb (by rw [hlen]; simpa using r4)
    have hs := Any.slices_Compact_int Try.compactInt gb 0 cap ss w hH (by omega) (by omega)
    rw [hlen] at hs
    have hcl : (Lib.compact ss).length ≤ ss.length := by
      unfold Lib.compact Lib.compactUpTo
      rw [List.length_map]
      exact Nat.le_trans (List.length_filter_le _ _) (by simp)
    refine hs.mono ?_
    rintro e w' ⟨rfl, q, rfl⟩
    have hg0 := grownBy_sorted_i (w := w) (g := gb) (n := q) (os := #[]) (Lib.compact ss ++ List.replicate (n - (Lib.compact ss).length) 0).toArray
    have ho := ownsRow_sorted_i (w := w) (n := q) (os := #[]) (ts := Lib.compact ss ++ List.replicate (n - (Lib.compact ss).length) 0) (ss := ss) (by simp; omega) hbase hgb (by omega) r2 (by simpa using r3)
    have hgr : ∀ u : World, grow u #[] = u := fun u => by simp [grow]
    rw [hgr] at hg0 ho
    refine ⟨_, rfl, ?_, hg0, .inr rfl⟩
    rw [List.map_append, hlen] at ho
    by_cases hn0 : 0 < n
    · have := own_pre ho hn0
      rw [List.length_map] at this
      exact this
    · have hss : ss = [] := List.eq_nil_of_length_eq_zero (by omega)
      have hnz : n = 0 := by omega
      subst hss
      subst hnz
      have hc : Lib.compact ([] : List Int) = [] := rfl
      rw [hc] at ho ⊢
      exact ho
end Go.Proofs.Ytmcdhggnpfhlmaa
