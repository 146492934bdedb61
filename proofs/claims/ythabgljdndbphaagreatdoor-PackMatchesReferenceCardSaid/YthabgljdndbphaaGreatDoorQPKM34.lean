/- slices.SortFunc at a row of pairs, by their second numbers: plain laws of the row; slices.SortFunc at a row of spots, by where they begin. -/
import Derived.Test.YthabgljdndbphaaGreatDoorQPKM09
import Derived.Maps.AppendAt
import Derived.Shelf.SlSortCmp.InsertionK
import Derived.Shelf.SlSortCmp.WholeK
import Derived.Shelf.SlSortCmp.NoneTotal
import Derived.Ground.SlsfProg

set_option linter.unusedVariables false
set_option linter.unusedSimpArgs false
namespace Go.Proofs.YthabgljdndbphaaGreatDoor
open Go.Sort Go.Proofs

/-- A pair whose second number is a place. -/
abbrev PX := {p : Int × Int // 0 ≤ p.2 ∧ p.2 ≤ 4000}

instance instPX : Inhabited PX := ⟨⟨(0, 0), by decide⟩⟩

def encX (x : PX) : List Value := [.int .i64 x.1.1, .int .i64 x.1.2]

def cfX (x y : PX) : Int := x.1.2 - y.1.2

theorem flat_pcells (d : Array PX) : flatK encX 2 d = (pcells (d.toList.map Subtype.val)).toArray := by
 apply Array.ext
 ·
  simp [pcells_length]
 ·
  intro k h1 h2
  have hk : k < d.size * 2 := by simpa using h1
  have hd : k / 2 < d.size := by omega
  have hh := get_flatK encX 2 d k hk
  rw [getElem!_pos _ k h1] at hh
  rw [hh, getElem!_pos d (k / 2) hd]
  obtain ⟨g1, g2⟩ := pcells_get (d.toList.map Subtype.val) (k / 2) (by simpa using hd)
  have e1 : gs (d.toList.map Subtype.val) (k / 2) = (d[k / 2]'hd).1.1 := by unfold gs; simp [List.getD, hd]
  have e2 : gv (d.toList.map Subtype.val) (k / 2) = (d[k / 2]'hd).1.2 := by unfold gv; simp [List.getD, hd]
  rw [e1] at g1; rw [e2] at g2
  rw [List.getElem_toArray]
  rcases Nat.mod_two_eq_zero_or_one k with a | a
  ·
   rw [show k / 2 * 2 = k from by omega] at g1
   rw [a]
   exact ((List.getElem?_eq_some_iff.1 g1).2).symm
  ·
   rw [show k / 2 * 2 + 1 = k from by omega] at g2
   rw [a]
   exact ((List.getElem?_eq_some_iff.1 g2).2).symm

/-- The pairs of a list that all have places. -/
theorem exists_px (L : List (Int × Int)) (h : ∀ x ∈ L, 0 ≤ x.2 ∧ x.2 ≤ 4000) : ∃ d : Array PX, d.toList.map Subtype.val = L := by
 induction L with
 | nil => exact ⟨#[], rfl⟩
 | cons x L ih =>
  obtain ⟨d, hd⟩ := ih (fun y hy => h y (by simp [hy]))
  exact ⟨(⟨x, h x (by simp)⟩ :: d.toList).toArray, by simp [hd]⟩

theorem holds_row {w : World} {b : Nat} {cur : Array Value} {T n : Nat} {d : Array PX} (hg : w.heap[b]? = some (.cells cur T (0, 0))) (hd : d.size = n)
  (ht : cur.toList.take (n * 2) = pcells (d.toList.map Subtype.val)) : HoldsK encX 2 w b 0 d := by
 unfold HoldsK
 rw [flat_pcells]
 intro j hj
 have hl : (pcells (d.toList.map Subtype.val)).length = n * 2 := by rw [pcells_length]; simp [hd]
 have hj2 : j < n * 2 := by rw [← hl]; simpa using hj
 refine ⟨?_, by simp [World.frozen?, hg]⟩
 have : (cur.toList.take (n * 2))[j]? = (pcells (d.toList.map Subtype.val))[j]? := by rw [ht]
 rw [List.getElem?_take, if_pos hj2, Array.getElem?_toList] at this
 simp only [World.cell?, hg, Nat.zero_add]
 rw [show (Option.some (id (pcells (List.map Subtype.val d.toList)).toArray[j]!)) = (pcells (d.toList.map Subtype.val))[j]? from by
  rw [getElem!_pos _ j (by simpa using hj)]
  simp only [id, List.getElem_toArray]
  rw [List.getElem?_eq_getElem]]
 exact this

theorem perm_of_in {d d' : Array PX} (h : PermIn 0 d.size d d') : d'.toList.Perm d.toList := by
 have := h.2.2
 have e : d'.toList.take d.size = d'.toList := List.take_of_length_le (by simp [h.1])
 simpa [e] using this

theorem sorted_of_in {d d' : Array PX} (hs : d'.size = d.size) (h : SortedIn (ltOf cfX) 0 d.size d') : (d'.toList.map Subtype.val).Pairwise (fun a b => a.2 ≤ b.2) := by
 rw [List.pairwise_map, List.pairwise_iff_getElem]
 intro i j hi hj hij
 have := h i j (Nat.zero_le _) hij (by simpa [hs] using hj)
 simp only [Array.length_toList] at hi hj
 rw [getElem!_pos d' j hj, getElem!_pos d' i hi] at this
 unfold ltOf cfX at this
 simp at this
 simp only [Array.getElem_toList]
 omega

theorem swo_cfX : SWO (ltOf cfX) :=
 ⟨fun x => by unfold ltOf cfX; simp, fun x y z h1 h2 => by unfold ltOf cfX at *; simp at *; omega, fun x y z h1 h2 => by unfold ltOf cfX at *; simp at *; omega⟩

theorem sortWorld_grown (w : World) (b n : Nat) (d : Array PX) (os : Array Obj) : w.grownBy (sortWorldK encX 2 w b 0 n d os) (some b) := by
 refine ⟨rfl, rfl, rfl, size_sortWorldK_c encX 2 w b 0 n d os, fun k hk hne => ?_⟩
 have hkb : k ≠ b := fun e => hne (by rw [e])
 unfold sortWorldK grow putRowK putRow mapBlock
 show ((w.heap.modify b _) ++ os)[k]? = _
 rw [Array.getElem?_append_left (by simpa using hk), Array.getElem?_modify, if_neg (by omega)]

theorem sortWorld_block {w : World} {b n m : Nat} {d : Array PX} (os : Array Obj) {cur : Array Value} {T : Nat} (hg : w.heap[b]? = some (.cells cur T (0, 0))) (hd : d.size = n) (hc : n * 2 ≤ cur.size) :
  ∃ cur' : Array Value, (sortWorldK encX 2 w b 0 m d os).heap[b]? = some (.cells cur' T (0, 0)) ∧ cur'.size = cur.size ∧ cur'.toList.take (n * 2) = pcells (d.toList.map Subtype.val) := by
 have hb : b < w.heap.size := (Array.getElem?_eq_some_iff.1 hg).1
 refine ⟨putCells id 0 (flatK encX 2 d) cur, ?_, by simp [putCells], ?_⟩
 ·
  unfold sortWorldK grow putRowK putRow mapBlock
  show ((w.heap.modify b _) ++ os)[b]? = _
  rw [Array.getElem?_append_left (by simpa using hb), Array.getElem?_modify, if_pos rfl, hg]
  rfl
 ·
  rw [flat_pcells]
  have hl : (pcells (d.toList.map Subtype.val)).length = n * 2 := by rw [pcells_length]; simp [hd]
  apply List.ext_getElem?
  intro j
  rw [List.getElem?_take, Array.getElem?_toList]
  split
  ·
   rename_i hj
   simp only [putCells, Array.getElem?_mapIdx, Nat.zero_add, Nat.zero_le, true_and, Nat.sub_zero, List.size_toArray, hl, hj, if_true]
   rw [Array.getElem?_eq_getElem (by omega), Option.map_some, getElem!_pos _ j (by simp [hl, hj])]
   simp only [id, List.getElem_toArray]
   rw [List.getElem?_eq_getElem]
  ·
   rename_i hj
   rw [List.getElem?_eq_none (by omega)]
end Go.Proofs.YthabgljdndbphaaGreatDoor

namespace Go.Proofs.YthabgljdndbphaaGreatDoor
open Go.Shelf Go.RowKit Go.Lib Go.Sort Go.Proofs
def Tryz.sortSpot_ren : Go.Shelf.Ren := ⟨fun | 6 => 31 | 15 => 51 | 14 => 50 | 28 => 73 | 29 => 74 | 20 => 65 | 21 => 66 | 22 => 67 | 23 => 68 | 24 => 69 | 25 => 70 | 26 => 71 | 27 => 72 | 46 => 81 | 47 => 82 | 48 => 83 | 49 => 84 | 50 => 85 | 57 => 93 | n => n, fun | 22 => 29 | 24 => 46 | 25 => 75 | 3 => 3 | 39 => 97 | 0 => 0 | 53 => 119 | 55 => 121 | 4 => 4 | 46 => 113 | 45 => 112 | 50 => 99 | 5 => 5 | 9 => 9 | 66 => 129 | 70 => 133 | 76 => 146 | 77 => 147 | n => n, fun | n => n⟩
theorem Tryz.sortSpot : Go.Proofs.SlLaysF0.n6 Tryz.prog Tryz.sortSpot_ren := {
 mixed := by kernel_rfl
 f6 := ⟨Tryz.f31.name, by decide, Tryz.func31.trans (congrArg some (by kernel_rfl))⟩
 f14 := ⟨Tryz.f50.name, by decide, Tryz.func50.trans (congrArg some (by kernel_rfl))⟩
 f15 := Tryz.func51.trans (congrArg some (by kernel_rfl))
 f20 := ⟨Tryz.f65.name, by decide, Tryz.func65.trans (congrArg some (by kernel_rfl))⟩
 f21 := ⟨Tryz.f66.name, by decide, Tryz.func66.trans (congrArg some (by kernel_rfl))⟩
 f22 := ⟨Tryz.f67.name, by decide, Tryz.func67.trans (congrArg some (by kernel_rfl))⟩
 f23 := ⟨Tryz.f68.name, by decide, Tryz.func68.trans (congrArg some (by kernel_rfl))⟩
 f24 := ⟨Tryz.f69.name, by decide, Tryz.func69.trans (congrArg some (by kernel_rfl))⟩
 f25 := ⟨Tryz.f70.name, by decide, Tryz.func70.trans (congrArg some (by kernel_rfl))⟩
 f26 := ⟨Tryz.f71.name, by decide, Tryz.func71.trans (congrArg some (by kernel_rfl))⟩
 f27 := ⟨Tryz.f72.name, by decide, Tryz.func72.trans (congrArg some (by kernel_rfl))⟩
 f28 := Tryz.func73.trans (congrArg some (by kernel_rfl))
 f29 := Tryz.func74.trans (congrArg some (by kernel_rfl))
 f46 := ⟨Tryz.f81.name, by decide, Tryz.func81.trans (congrArg some (by kernel_rfl))⟩
 f47 := Tryz.func82.trans (congrArg some (by kernel_rfl))
 f48 := Tryz.func83.trans (congrArg some (by kernel_rfl))
 f49 := ⟨Tryz.f84.name, by decide, Tryz.func84.trans (congrArg some (by kernel_rfl))⟩
 f50 := ⟨Tryz.f85.name, by decide, Tryz.func85.trans (congrArg some (by kernel_rfl))⟩
 f57 := ⟨Tryz.f93.name, by decide, Tryz.func93.trans (congrArg some (by kernel_rfl))⟩
 t0 := Tryz.underlying0
 a0 := Tryz.isAgg0
 z0 := Tryz.sizeOf0
 v0 := Tryz.zeroValue0
 t3 := Tryz.underlying3
 a3 := Tryz.isAgg3
 z3 := Tryz.sizeOf3
 v3 := Tryz.zeroValue3
 t4 := Tryz.underlying4
 a4 := Tryz.isAgg4
 z4 := Tryz.sizeOf4
 v4 := Tryz.zeroValue4
 t5 := Tryz.underlying5
 a5 := Tryz.isAgg5
 z5 := Tryz.sizeOf5
 v5 := Tryz.zeroValue5
 t9 := Tryz.underlying9
 a9 := Tryz.isAgg9
 z9 := Tryz.sizeOf9
 v9 := Tryz.zeroValue9
 t22 := Tryz.underlying29
 a22 := Tryz.isAgg29
 z22 := Tryz.sizeOf29
 v22 := Tryz.zeroValue29
 t25 := Tryz.underlying75
 a25 := Tryz.isAgg75
 z25 := Tryz.sizeOf75
 v25 := Tryz.zeroValue75
 t39 := Tryz.underlying97
 a39 := Tryz.isAgg97
 z39 := Tryz.sizeOf97
 v39 := Tryz.zeroValue97
 t45 := Tryz.underlying112
 a45 := Tryz.isAgg112
 z45 := Tryz.sizeOf112
 v45 := Tryz.zeroValue112
 t46 := Tryz.underlying113
 a46 := Tryz.isAgg113
 z46 := Tryz.sizeOf113
 v46 := Tryz.zeroValue113
 t50 := Tryz.underlying99
 a50 := Tryz.isAgg99
 z50 := Tryz.sizeOf99
 v50 := Tryz.zeroValue99
 t53 := Tryz.underlying119
 a53 := Tryz.isAgg119
 z53 := Tryz.sizeOf119
 v53 := Tryz.zeroValue119
 t55 := Tryz.underlying121
 a55 := Tryz.isAgg121
 z55 := Tryz.sizeOf121
 v55 := Tryz.zeroValue121
 t66 := Tryz.underlying129
 a66 := Tryz.isAgg129
 z66 := Tryz.sizeOf129
 v66 := Tryz.zeroValue129
 t70 := Tryz.underlying133
 a70 := Tryz.isAgg133
 z70 := Tryz.sizeOf133
 v70 := Tryz.zeroValue133
 t76 := Tryz.underlying146
 a76 := Tryz.isAgg146
 z76 := Tryz.sizeOf146
 v76 := Tryz.zeroValue146
 t77 := Tryz.underlying147
 a77 := Tryz.isAgg147
 z77 := Tryz.sizeOf147
 v77 := Tryz.zeroValue147 }

set_option maxHeartbeats 1000000 in
theorem legal1_any (x y : PX) (w : World) : Calls Tryz.prog 32 #[.agg (encX x).toArray, .agg (encX y).toArray] w fun e w' => e = .returned (.int .i64 (cfX x y)) ∧ ∃ q os', w' = grow (w.drewN q) os' := by
 obtain ⟨⟨a, b⟩, h1⟩ := x
 obtain ⟨⟨c, d⟩, h2⟩ := y
 unfold cfX encX
 dsimp only at h1 h2 ⊢
 go_enter Tryz.func32, Tryz.ntmps32
 go_wp2_with fail
 go_ret
 exact ⟨rfl, 0, _, by rw [alloc_eq_grow, alloc_eq_grow, grow_grow]; rfl⟩

theorem legal1_lays (blk off size : Nat) (w : World) : CmpLays Tryz.prog 32 #[] encX 2 cfX blk off size w :=
 fun _ _ _ _ x y => legal1_any x y _

theorem enter_legal1 : ∀ (args : Array Value) (w : World), (callFunc 32 args).run Tryz.prog w = .ok (.enter 32 args) w := enters_of Tryz.func32 (by kernel_rfl) rfl

theorem sort_row (v : Value) (n B : Nat) (L : List (Int × Int)) (w : World) (hL : L.length = n) (hn : n ≤ 4000) (hb : ∀ x ∈ L, 0 ≤ x.2 ∧ x.2 ≤ 4000) (ho : w.ownsRow B 46 2 v n (pcells L)) :
  Calls Tryz.prog 31 #[v, .func (.func 32) #[] #[]] w fun e w' => e = .returned (.tuple #[]) ∧
   ∃ L', L'.Perm L ∧ L'.Pairwise (fun a b => a.2 ≤ b.2) ∧ w'.ownsRow B 46 2 v n (pcells L') ∧ w.grownBy w' v.ownBlock := by
 rcases ho.2 with ⟨rfl, rfl⟩ | ⟨g, cap, cur, rfl, hBg, hg, hnc, hcm, hcs, htake⟩
 ·
  have hcon := AnyF.slices_SortFunc_none Tryz.sortSpot none 0 (.func (.func 32) #[] #[]) w
  change Calls Tryz.prog 31 _ _ _ at hcon
  refine hcon.mono ?_
  rintro e w' ⟨rfl, rfl⟩
  obtain rfl : L = [] := List.eq_nil_of_length_eq_zero hL
  exact ⟨rfl, [], List.Perm.refl _, List.Pairwise.nil, ho, ⟨rfl, rfl, rfl, Nat.le_refl _, fun _ _ _ => rfl⟩⟩
 ·
  obtain ⟨d, hd⟩ := exists_px L hb
  have hds : d.size = n := by rw [← hL, ← hd]; simp
  have hH : HoldsK encX 2 w g 0 d := holds_row hg hds (by rw [htake, hd])
  have hglt : g < w.heap.size := (Array.getElem?_eq_some_iff.1 hg).1
  have hcon := AnyQ.slices_SortFunc Tryz.sortSpot 2 Tryz.isAgg46 Tryz.sizeOf46 encX (fun _ => rfl) (fun x v hv => by simp [encX] at hv; rcases hv with rfl | rfl <;> rfl) cfX swo_cfX 32 #[] g 0 cap d w enter_legal1 (legal1_lays g 0 d.size w) hH hglt (by omega)
  change Calls Tryz.prog 31 _ _ _ at hcon
  rw [hds] at hcon
  refine hcon.mono ?_
  rintro e w' ⟨rfl, d', m, os, hp, hs, rfl⟩
  rw [← hds] at hp hs
  have hd's : d'.size = n := by rw [hp.1, hds]
  obtain ⟨cur', h1, h2, h3⟩ := sortWorld_block (m := m) os hg hd's (by rw [hcs]; omega)
  refine ⟨rfl, d'.toList.map Subtype.val, ?_, sorted_of_in hp.1 hs, ⟨by rw [pcells_length]; simp [hd's], Or.inr ⟨g, cap, cur', rfl, hBg, h1, hnc, hcm, by rw [h2, hcs], h3⟩⟩, sortWorld_grown w g m d' os⟩
  rw [← hd]
  exact (perm_of_in hp).map _
end Go.Proofs.YthabgljdndbphaaGreatDoor
