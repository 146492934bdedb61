/- merge: slices.SortFunc at scans and at blames. -/
import Derived.Test.YtpmoelkblngamaaQMMR14
import Derived.Shelf.SlSortCmp.NoneTotal
import Derived.Ground.SlsfProg
import Derived.Shelf.SlSortCmp.InsertionK

namespace Go.Proofs.Ytpmoelkblngamaa
open Go.Shelf Go.RowKit Go.Lib Go.Sort Go.Proofs
def Try.sortScan_ren : Go.Shelf.Ren := ⟨fun | 6 => 29 | 15 => 51 | 14 => 50 | 28 => 67 | 29 => 68 | 20 => 59 | 21 => 60 | 22 => 61 | 23 => 62 | 24 => 63 | 25 => 64 | 26 => 65 | 27 => 66 | 46 => 87 | 47 => 88 | 48 => 89 | 49 => 90 | 50 => 91 | 57 => 98 | n => n, fun | 22 => 22 | 24 => 39 | 25 => 65 | 3 => 3 | 39 => 92 | 0 => 0 | 53 => 111 | 55 => 113 | 4 => 4 | 46 => 105 | 45 => 104 | 50 => 95 | 5 => 5 | 9 => 9 | 66 => 126 | 70 => 130 | 76 => 136 | 77 => 137 | n => n, fun | n => n⟩
theorem Try.sortScan : Go.Proofs.SlLaysF0.n6 Try.prog Try.sortScan_ren where
  mixed := by kernel_rfl
  f6 := ⟨"slices.SortFunc[[]foyer/api.Scan,foyer/api.Scan]", by decide, Try.func29.trans (congrArg some (by kernel_rfl))⟩
  f14 := ⟨"slices.pdqsortCmpFunc[foyer/api.Scan]", by decide, Try.func50.trans (congrArg some (by kernel_rfl))⟩
  f15 := Try.func51.trans (congrArg some (by kernel_rfl))
  f20 := ⟨"slices.insertionSortCmpFunc[foyer/api.Scan]", by decide, Try.func59.trans (congrArg some (by kernel_rfl))⟩
  f21 := ⟨"slices.heapSortCmpFunc[foyer/api.Scan]", by decide, Try.func60.trans (congrArg some (by kernel_rfl))⟩
  f22 := ⟨"slices.breakPatternsCmpFunc[foyer/api.Scan]", by decide, Try.func61.trans (congrArg some (by kernel_rfl))⟩
  f23 := ⟨"slices.choosePivotCmpFunc[foyer/api.Scan]", by decide, Try.func62.trans (congrArg some (by kernel_rfl))⟩
  f24 := ⟨"slices.reverseRangeCmpFunc[foyer/api.Scan]", by decide, Try.func63.trans (congrArg some (by kernel_rfl))⟩
  f25 := ⟨"slices.partialInsertionSortCmpFunc[foyer/api.Scan]", by decide, Try.func64.trans (congrArg some (by kernel_rfl))⟩
  f26 := ⟨"slices.partitionEqualCmpFunc[foyer/api.Scan]", by decide, Try.func65.trans (congrArg some (by kernel_rfl))⟩
  f27 := ⟨"slices.partitionCmpFunc[foyer/api.Scan]", by decide, Try.func66.trans (congrArg some (by kernel_rfl))⟩
  f28 := Try.func67.trans (congrArg some (by kernel_rfl))
  f29 := Try.func68.trans (congrArg some (by kernel_rfl))
  f46 := ⟨"slices.siftDownCmpFunc[foyer/api.Scan]", by decide, Try.func87.trans (congrArg some (by kernel_rfl))⟩
  f47 := Try.func88.trans (congrArg some (by kernel_rfl))
  f48 := Try.func89.trans (congrArg some (by kernel_rfl))
  f49 := ⟨"slices.medianAdjacentCmpFunc[foyer/api.Scan]", by decide, Try.func90.trans (congrArg some (by kernel_rfl))⟩
  f50 := ⟨"slices.medianCmpFunc[foyer/api.Scan]", by decide, Try.func91.trans (congrArg some (by kernel_rfl))⟩
  f57 := ⟨"slices.order2CmpFunc[foyer/api.Scan]", by decide, Try.func98.trans (congrArg some (by kernel_rfl))⟩
  t0 := Try.underlying0
  a0 := Try.isAgg0
  z0 := Try.sizeOf0
  v0 := Try.zeroValue0
  t3 := Try.underlying3
  a3 := Try.isAgg3
  z3 := Try.sizeOf3
  v3 := Try.zeroValue3
  t4 := Try.underlying4
  a4 := Try.isAgg4
  z4 := Try.sizeOf4
  v4 := Try.zeroValue4
  t5 := Try.underlying5
  a5 := Try.isAgg5
  z5 := Try.sizeOf5
  v5 := Try.zeroValue5
  t9 := Try.underlying9
  a9 := Try.isAgg9
  z9 := Try.sizeOf9
  v9 := Try.zeroValue9
  t22 := Try.underlying22
  a22 := Try.isAgg22
  z22 := Try.sizeOf22
  v22 := Try.zeroValue22
  t25 := Try.underlying65
  a25 := Try.isAgg65
  z25 := Try.sizeOf65
  v25 := Try.zeroValue65
  t39 := Try.underlying92
  a39 := Try.isAgg92
  z39 := Try.sizeOf92
  v39 := Try.zeroValue92
  t45 := Try.underlying104
  a45 := Try.isAgg104
  z45 := Try.sizeOf104
  v45 := Try.zeroValue104
  t46 := Try.underlying105
  a46 := Try.isAgg105
  z46 := Try.sizeOf105
  v46 := Try.zeroValue105
  t50 := Try.underlying95
  a50 := Try.isAgg95
  z50 := Try.sizeOf95
  v50 := Try.zeroValue95
  t53 := Try.underlying111
  a53 := Try.isAgg111
  z53 := Try.sizeOf111
  v53 := Try.zeroValue111
  t55 := Try.underlying113
  a55 := Try.isAgg113
  z55 := Try.sizeOf113
  v55 := Try.zeroValue113
  t66 := Try.underlying126
  a66 := Try.isAgg126
  z66 := Try.sizeOf126
  v66 := Try.zeroValue126
  t70 := Try.underlying130
  a70 := Try.isAgg130
  z70 := Try.sizeOf130
  v70 := Try.zeroValue130
  t76 := Try.underlying136
  a76 := Try.isAgg136
  z76 := Try.sizeOf136
  v76 := Try.zeroValue136
  t77 := Try.underlying137
  a77 := Try.isAgg137
  z77 := Try.sizeOf137
  v77 := Try.zeroValue137
def Try.sortBlame_ren : Go.Shelf.Ren := ⟨fun | 14 => 55 | 20 => 70 | 21 => 71 | 22 => 72 | 23 => 73 | 24 => 74 | 25 => 75 | 26 => 76 | 27 => 77 | 46 => 92 | 47 => 88 | 48 => 89 | 49 => 93 | 50 => 94 | 15 => 51 | 57 => 99 | 28 => 67 | 29 => 68 | n => n, fun | 24 => 48 | 22 => 31 | 3 => 3 | 25 => 81 | 4 => 4 | 0 => 0 | 46 => 105 | 45 => 104 | 50 => 95 | 66 => 126 | 39 => 92 | 55 => 113 | 70 => 130 | 76 => 136 | 77 => 137 | 53 => 111 | 5 => 5 | 9 => 9 | n => n, fun | n => n⟩
theorem Try.sortBlame : Go.Proofs.SlLaysF0.n14 Try.prog Try.sortBlame_ren where
  mixed := by kernel_rfl
  f14 := ⟨"slices.pdqsortCmpFunc[foyer/api.Blame]", by decide, Try.func55.trans (congrArg some (by kernel_rfl))⟩
  f15 := Try.func51.trans (congrArg some (by kernel_rfl))
  f20 := ⟨"slices.insertionSortCmpFunc[foyer/api.Blame]", by decide, Try.func70.trans (congrArg some (by kernel_rfl))⟩
  f21 := ⟨"slices.heapSortCmpFunc[foyer/api.Blame]", by decide, Try.func71.trans (congrArg some (by kernel_rfl))⟩
  f22 := ⟨"slices.breakPatternsCmpFunc[foyer/api.Blame]", by decide, Try.func72.trans (congrArg some (by kernel_rfl))⟩
  f23 := ⟨"slices.choosePivotCmpFunc[foyer/api.Blame]", by decide, Try.func73.trans (congrArg some (by kernel_rfl))⟩
  f24 := ⟨"slices.reverseRangeCmpFunc[foyer/api.Blame]", by decide, Try.func74.trans (congrArg some (by kernel_rfl))⟩
  f25 := ⟨"slices.partialInsertionSortCmpFunc[foyer/api.Blame]", by decide, Try.func75.trans (congrArg some (by kernel_rfl))⟩
  f26 := ⟨"slices.partitionEqualCmpFunc[foyer/api.Blame]", by decide, Try.func76.trans (congrArg some (by kernel_rfl))⟩
  f27 := ⟨"slices.partitionCmpFunc[foyer/api.Blame]", by decide, Try.func77.trans (congrArg some (by kernel_rfl))⟩
  f28 := Try.func67.trans (congrArg some (by kernel_rfl))
  f29 := Try.func68.trans (congrArg some (by kernel_rfl))
  f46 := ⟨"slices.siftDownCmpFunc[foyer/api.Blame]", by decide, Try.func92.trans (congrArg some (by kernel_rfl))⟩
  f47 := Try.func88.trans (congrArg some (by kernel_rfl))
  f48 := Try.func89.trans (congrArg some (by kernel_rfl))
  f49 := ⟨"slices.medianAdjacentCmpFunc[foyer/api.Blame]", by decide, Try.func93.trans (congrArg some (by kernel_rfl))⟩
  f50 := ⟨"slices.medianCmpFunc[foyer/api.Blame]", by decide, Try.func94.trans (congrArg some (by kernel_rfl))⟩
  f57 := ⟨"slices.order2CmpFunc[foyer/api.Blame]", by decide, Try.func99.trans (congrArg some (by kernel_rfl))⟩
  t0 := Try.underlying0
  a0 := Try.isAgg0
  z0 := Try.sizeOf0
  v0 := Try.zeroValue0
  t3 := Try.underlying3
  a3 := Try.isAgg3
  z3 := Try.sizeOf3
  v3 := Try.zeroValue3
  t4 := Try.underlying4
  a4 := Try.isAgg4
  z4 := Try.sizeOf4
  v4 := Try.zeroValue4
  t5 := Try.underlying5
  a5 := Try.isAgg5
  z5 := Try.sizeOf5
  v5 := Try.zeroValue5
  t9 := Try.underlying9
  a9 := Try.isAgg9
  z9 := Try.sizeOf9
  v9 := Try.zeroValue9
  t22 := Try.underlying31
  a22 := Try.isAgg31
  z22 := Try.sizeOf31
  v22 := Try.zeroValue31
  t25 := Try.underlying81
  a25 := Try.isAgg81
  z25 := Try.sizeOf81
  v25 := Try.zeroValue81
  t39 := Try.underlying92
  a39 := Try.isAgg92
  z39 := Try.sizeOf92
  v39 := Try.zeroValue92
  t45 := Try.underlying104
  a45 := Try.isAgg104
  z45 := Try.sizeOf104
  v45 := Try.zeroValue104
  t46 := Try.underlying105
  a46 := Try.isAgg105
  z46 := Try.sizeOf105
  v46 := Try.zeroValue105
  t50 := Try.underlying95
  a50 := Try.isAgg95
  z50 := Try.sizeOf95
  v50 := Try.zeroValue95
  t53 := Try.underlying111
  a53 := Try.isAgg111
  z53 := Try.sizeOf111
  v53 := Try.zeroValue111
  t55 := Try.underlying113
  a55 := Try.isAgg113
  z55 := Try.sizeOf113
  v55 := Try.zeroValue113
  t66 := Try.underlying126
  a66 := Try.isAgg126
  z66 := Try.sizeOf126
  v66 := Try.zeroValue126
  t70 := Try.underlying130
  a70 := Try.isAgg130
  z70 := Try.sizeOf130
  v70 := Try.zeroValue130
  t76 := Try.underlying136
  a76 := Try.isAgg136
  z76 := Try.sizeOf136
  v76 := Try.zeroValue136
  t77 := Try.underlying137
  a77 := Try.isAgg137
  z77 := Try.sizeOf137
  v77 := Try.zeroValue137

section
variable {α : Type} [Inhabited α] {E : Enc α 6}

theorem flatK_is (d : Array α) : flatK E.cells 6 d = (flat E d.toList).toArray := by
  apply Array.ext
  · simp [flat_len]
  · intro k h1 h2
    have hk : k < d.size * 6 := by simpa using h1
    have hd : k / 6 < d.size := by omega
    have hh := get_flatK E.cells 6 d k hk
    rw [getElem!_pos _ k h1] at hh
    rw [hh, getElem!_pos d (k / 6) hd]
    have g1 := flat_get (E := E) d.toList (k / 6) (k % 6) (by simpa using hd) (Nat.mod_lt _ (by decide))
    rw [show k / 6 * 6 + k % 6 = k from by omega, rc_eq _ _ (by simpa using hd)] at g1
    have h3 := (List.getElem?_eq_some_iff.1 g1).2
    refine Eq.trans ?_ ((List.getElem_toArray _).trans h3).symm
    have hl : k % 6 < (E.cells (d[k / 6]'hd)).length := by rw [E.len]; exact Nat.mod_lt _ (by decide)
    simp only [Array.getElem_toList, List.getD_eq_getElem?_getD, List.getElem?_eq_getElem hl, Option.getD_some]
    rw [getElem!_pos (E.cells (d[k / 6]'hd)) (k % 6) hl]

theorem holds_recs {w : World} {b : Nat} {cur : Array Value} {T n : Nat} {d : Array α} (hg : w.heap[b]? = some (.cells cur T (0, 0))) (hd : d.size = n)
    (ht : cur.toList.take (n * 6) = flat E d.toList) : HoldsK E.cells 6 w b 0 d := by
  unfold HoldsK
  rw [flatK_is (E := E)]
  intro j hj
  have hl : (flat E d.toList).length = n * 6 := by rw [flat_len]; simp [hd]
  have hj2 : j < n * 6 := by rw [← hl]; simpa using hj
  refine ⟨?_, by simp [World.frozen?, hg]⟩
  have : (cur.toList.take (n * 6))[j]? = (flat E d.toList)[j]? := by rw [ht]
  rw [List.getElem?_take, if_pos hj2, Array.getElem?_toList] at this
  simp only [World.cell?, hg, Nat.zero_add]
  rw [show (Option.some (id (flat E d.toList).toArray[j]!)) = (flat E d.toList)[j]? from by
    rw [getElem!_pos _ j (by simpa using hj)]
    simp only [id, List.getElem_toArray]
    rw [List.getElem?_eq_getElem]]
  exact this

theorem perm_recs {d d' : Array α} (h : PermIn 0 d.size d d') : d'.toList.Perm d.toList := by
  have := h.2.2
  have e : d'.toList.take d.size = d'.toList := List.take_of_length_le (by simp [h.1])
  simpa [e] using this

theorem sortRecs_grown (w : World) (b n : Nat) (d : Array α) (os : Array Obj) : w.grownBy (sortWorldK E.cells 6 w b 0 n d os) (some b) := by
  refine ⟨rfl, rfl, rfl, size_sortWorldK_c E.cells 6 w b 0 n d os, fun k hk hne => ?_⟩
  have hkb : k ≠ b := fun e => hne (by rw [e])
  unfold sortWorldK grow putRowK putRow mapBlock
  show ((w.heap.modify b _) ++ os)[k]? = _
  rw [Array.getElem?_append_left (by simpa using hk), Array.getElem?_modify, if_neg (by omega)]

theorem sortRecs_block {w : World} {b n m : Nat} {d : Array α} (os : Array Obj) {cur : Array Value} {T : Nat} (hg : w.heap[b]? = some (.cells cur T (0, 0))) (hd : d.size = n) (hc : n * 6 ≤ cur.size) :
    ∃ cur' : Array Value, (sortWorldK E.cells 6 w b 0 m d os).heap[b]? = some (.cells cur' T (0, 0)) ∧ cur'.size = cur.size ∧ cur'.toList.take (n * 6) = flat E d.toList := by
  have hb : b < w.heap.size := (Array.getElem?_eq_some_iff.1 hg).1
  refine ⟨putCells id 0 (flatK E.cells 6 d) cur, ?_, by simp [putCells], ?_⟩
  · unfold sortWorldK grow putRowK putRow mapBlock
    show ((w.heap.modify b _) ++ os)[b]? = _
    rw [Array.getElem?_append_left (by simpa using hb), Array.getElem?_modify, if_pos rfl, hg]
    rfl
  · rw [flatK_is (E := E)]
    have hl : (flat E d.toList).length = n * 6 := by rw [flat_len]; simp [hd]
    apply List.ext_getElem?
    intro j
    rw [List.getElem?_take, Array.getElem?_toList]
    split
    · rename_i hj
      simp only [putCells, Array.getElem?_mapIdx, Nat.zero_add, Nat.zero_le, true_and, Nat.sub_zero, List.size_toArray, hl, hj, if_true]
      rw [Array.getElem?_eq_getElem (by omega), Option.map_some, getElem!_pos _ j (by simp [hl, hj])]
      simp only [id, List.getElem_toArray]
      rw [List.getElem?_eq_getElem]
    · rename_i hj
      rw [List.getElem?_eq_none (by omega)]

end

theorem swo_key {α : Type} (K : KeyOf α) (cf : α → α → Int) (h : ∀ a b, cf a b < 0 ↔ KLt K a b) : SWO (ltOf cf) := by
  have e : ∀ a b, ltOf cf a b = true ↔ KLt K a b := fun a b => by unfold ltOf; rw [decide_eq_true_eq, h]
  have ef : ∀ a b, ltOf cf a b = false ↔ ¬ KLt K a b := fun a b => by rw [← e, Bool.not_eq_true]
  refine ⟨fun x => (ef x x).mpr (kirr K x), fun x y z h1 h2 => ?_, fun x y z h1 h2 => ?_⟩
  · rw [e] at *; exact ktrans K h1 h2
  · rw [ef] at *
    intro h3
    rcases ktri K x y with h | h | h
    · exact h1 h
    · subst h; exact h2 h3
    · exact h2 (ktrans K h h3)

theorem sorted_recs {α : Type} [Inhabited α] (K : KeyOf α) (cf : α → α → Int) (hc : ∀ a b, cf a b < 0 ↔ KLt K a b) {d d' : Array α} (hs : d'.size = d.size) (h : SortedIn (ltOf cf) 0 d.size d') : d'.toList.Pairwise (fun a b => ¬ KLt K b a) := by
  rw [List.pairwise_iff_getElem]
  intro i j hi hj hij
  have := h i j (Nat.zero_le _) hij (by simpa [hs] using hj)
  simp only [Array.length_toList] at hi hj
  rw [getElem!_pos d' j hj, getElem!_pos d' i hi] at this
  intro hk
  have e : ltOf cf d'[j] d'[i] = true := by unfold ltOf; rw [decide_eq_true_eq, hc]; simpa using hk
  rw [e] at this
  cases this

theorem scans_lays (blk off size : Nat) (w : World) : CmpLays Try.prog 30 #[] ScnE.cells 6 cfS blk off size w :=
  fun _ _ _ _ x y => order_any x y _
theorem scans_enter : ∀ (args : Array Value) (w : World), (callFunc 30 args).run Try.prog w = .ok (.enter 30 args) w := enters_of Try.func30 (by kernel_rfl) rfl

theorem scans_none (w : World) : Calls Try.prog 29 #[.slice none 0 0, .func (.func 30) #[] #[]] w fun e w' => e = .returned (.tuple #[]) ∧ w.grownBy w' none := by
  have hcon := AnyF.slices_SortFunc_none Try.sortScan none 0 (.func (.func 30) #[] #[]) w
  change Calls Try.prog 29 _ _ _ at hcon
  refine hcon.mono ?_
  rintro e w' ⟨rfl, rfl⟩
  exact ⟨rfl, ⟨rfl, rfl, rfl, Nat.le_refl _, fun _ _ _ => rfl⟩⟩
theorem scans_sort (g cap : Nat) (d : Array Scn) (w : World) (hH : HoldsK ScnE.cells 6 w g 0 d) (hglt : g < w.heap.size) (hsz : d.size < 4611686018427387904) :
    Calls Try.prog 29 #[.slice (some ⟨g, 0, none⟩) d.size cap, .func (.func 30) #[] #[]] w fun e w' =>
      e = .returned (.tuple #[]) ∧ ∃ d' n os, PermIn 0 d.size d d' ∧ SortedIn (ltOf cfS) 0 d.size d' ∧ w' = sortWorldK ScnE.cells 6 w g 0 n d' os :=
  AnyQ.slices_SortFunc Try.sortScan 6 Try.isAgg39 Try.sizeOf39 ScnE.cells (fun x => ScnE.len x) (fun x v hv => ScnE.one x v hv) cfS (swo_key KS cfS cfS_lt) 30 #[] g 0 cap d w scans_enter (scans_lays g 0 d.size w) hH hglt hsz

theorem scans_any (v : Value) (n B : Nat) (L : List Scn) (w : World) (hn : n ≤ 1000000000) (ho : w.ownsRow B 39 6 v n (flat ScnE L)) :
    Calls Try.prog 29 #[v, .func (.func 30) #[] #[]] w fun e w' => e = .returned (.tuple #[]) ∧
      ∃ L' : List Scn, L'.Perm L ∧ L'.Pairwise (fun a b => ¬ KLt KS b a) ∧ w'.ownsRow B 39 6 v n (flat ScnE L') ∧ w.grownBy w' v.ownBlock := by
  have hL : L.length = n := by have := ho.1; rw [flat_len] at this; omega
  rcases ho.2 with ⟨rfl, rfl⟩ | ⟨g, cap, cur, rfl, hBg, hg, hnc, hcm, hcs, htake⟩
  · refine (scans_none w).mono ?_
    rintro e w' ⟨rfl, hg⟩
    obtain rfl : L = [] := List.eq_nil_of_length_eq_zero hL
    exact ⟨rfl, [], List.Perm.refl _, List.Pairwise.nil, ⟨ho.1, Or.inl ⟨rfl, rfl⟩⟩, hg⟩
  · obtain ⟨d, hd⟩ : ∃ d : Array Scn, d.toList = L := ⟨L.toArray, by simp⟩
    have hds : d.size = n := by rw [← hL, ← hd]; simp
    have hH : HoldsK ScnE.cells 6 w g 0 d := holds_recs hg hds (by rw [htake, hd])
    have hglt : g < w.heap.size := (Array.getElem?_eq_some_iff.1 hg).1
    have hcon := scans_sort g cap d w hH hglt (by omega)
    rw [hds] at hcon
    refine hcon.mono ?_
    rintro e w' ⟨rfl, d', m, os, hp, hs, rfl⟩
    rw [← hds] at hp hs
    have hd's : d'.size = n := by rw [hp.1, hds]
    obtain ⟨cur', h1, h2, h3⟩ := sortRecs_block (E := ScnE) (m := m) os hg hd's (by rw [hcs]; omega)
    refine ⟨rfl, d'.toList, ?_, sorted_recs KS cfS cfS_lt hp.1 hs, ⟨by rw [flat_len]; simp [hd's], Or.inr ⟨g, cap, cur', rfl, hBg, h1, hnc, hcm, by rw [h2, hcs], h3⟩⟩, sortRecs_grown w g m d' os⟩
    rw [← hd]
    exact perm_recs hp

theorem blames_lays (blk off size : Nat) (w : World) : CmpLays Try.prog 40 #[] BlmE.cells 6 cfB blk off size w :=
  fun _ _ _ _ x y => bcmp_any x y _
theorem blames_enter : ∀ (args : Array Value) (w : World), (callFunc 40 args).run Try.prog w = .ok (.enter 40 args) w := enters_of Try.func40 (by kernel_rfl) rfl

theorem blames_len (n : Nat) (w : World) (h : n < 4611686018427387904) : Calls Try.prog 51 #[.int .u64 (n : Int)] w fun e w' => e = .returned (.int .i64 (Lib.bitLen n : Nat)) ∧ w' = w := by
  have h := Any.bits_Len (SlLaysF0.n15.bits (P := Try.prog) (ρ := Try.sortScan_ren) { Try.sortScan with }) (n : Int) w (by omega) (by omega)
  rwa [Int.toNat_natCast] at h
theorem blames_none (w : World) : Calls Try.prog 39 #[.slice none 0 0, .func (.func 40) #[] #[]] w fun e w' => e = .returned (.tuple #[]) ∧ w.grownBy w' none := by
  have HP := Lib.hid (fun (lim : Nat) W => AnyF.pdqsortCmpFunc_none Try.sortBlame none 0 lim (.func (.func 40) #[] #[]) W)
  go_enter Try.func39, Try.ntmps39
  go_wp2_with fail
  refine (blames_len 0 w (by omega)).mono ?_
  rintro e w' ⟨rfl, rfl⟩
  go_wp2_with fail
  refine (HP.out _ _).mono ?_
  rintro e w' ⟨rfl, rfl⟩
  go_wp2_with fail
  go_end0
  exact ⟨rfl, ⟨rfl, rfl, rfl, Nat.le_refl _, fun _ _ _ => rfl⟩⟩
set_option maxRecDepth 10000 in
theorem blames_sort (g cap : Nat) (d : Array Blm) (w : World) (hH : HoldsK BlmE.cells 6 w g 0 d) (hglt : g < w.heap.size) (hsz : d.size < 4611686018427387904) :
    Calls Try.prog 39 #[.slice (some ⟨g, 0, none⟩) d.size cap, .func (.func 40) #[] #[]] w fun e w' =>
      e = .returned (.tuple #[]) ∧ ∃ d' n os, PermIn 0 d.size d d' ∧ SortedIn (ltOf cfB) 0 d.size d' ∧ w' = sortWorldK BlmE.cells 6 w g 0 n d' os := by
  have hlim : Lib.bitLen d.size < 4611686018427387904 := Nat.lt_of_le_of_lt (Lib.bitLen_le d.size 62 (by omega) (by omega)) (by omega)
  have hp := AnyQ.pdqsortCmpFunc_all Try.sortBlame 6 Try.isAgg48 Try.sizeOf48 BlmE.cells cfB 40 #[] (swo_key KB cfB cfB_lt) g 0 cap d w blames_enter (blames_lays g 0 d.size w) ⟨fun x => BlmE.len x, fun x v hv => BlmE.one x v hv, hH, hglt⟩ (d.size + 1) 0 d.size (Lib.bitLen d.size) d w (by omega) rfl (SWK.start hH) (Nat.zero_le _) (Nat.le_refl _) hsz hlim (Or.inl rfl)
  change Calls Try.prog 55 _ _ _ at hp
  have hpd := pdq_sorts (ltOf cfB) (swo_key KB cfB cfB_lt) d 0 d.size (Lib.bitLen d.size) true true (Nat.zero_le _) (Nat.le_refl _) (Or.inl rfl)
  have HP := Lib.hid hp
  have HPD := Lib.hid hpd
  have wr : IntKind.u64.wrap (d.size : Int) = d.size := by simp [IntKind.wrap, IntKind.bits, IntKind.signed]; omega
  clear hp hpd hH
  generalize d.size = n at *
  go_enter Try.func39, Try.ntmps39
  go_wp2_with fail
  refine (blames_len n w hsz).mono ?_
  rintro e w' ⟨rfl, rfl⟩
  go_wp2_with fail
  refine HP.out.mono ?_
  rintro e w' ⟨rfl, m, os, rfl⟩
  go_wp2_with fail
  go_end0
  exact ⟨rfl, _, m, os, HPD.out.1, HPD.out.2, rfl⟩

theorem blames_any (v : Value) (n B : Nat) (L : List Blm) (w : World) (hn : n ≤ 1000000000) (ho : w.ownsRow B 48 6 v n (flat BlmE L)) :
    Calls Try.prog 39 #[v, .func (.func 40) #[] #[]] w fun e w' => e = .returned (.tuple #[]) ∧
      ∃ L' : List Blm, L'.Perm L ∧ L'.Pairwise (fun a b => ¬ KLt KB b a) ∧ w'.ownsRow B 48 6 v n (flat BlmE L') ∧ w.grownBy w' v.ownBlock := by
  have hL : L.length = n := by have := ho.1; rw [flat_len] at this; omega
  rcases ho.2 with ⟨rfl, rfl⟩ | ⟨g, cap, cur, rfl, hBg, hg, hnc, hcm, hcs, htake⟩
  · refine (blames_none w).mono ?_
    rintro e w' ⟨rfl, hg⟩
    obtain rfl : L = [] := List.eq_nil_of_length_eq_zero hL
    exact ⟨rfl, [], List.Perm.refl _, List.Pairwise.nil, ⟨ho.1, Or.inl ⟨rfl, rfl⟩⟩, hg⟩
  · obtain ⟨d, hd⟩ : ∃ d : Array Blm, d.toList = L := ⟨L.toArray, by simp⟩
    have hds : d.size = n := by rw [← hL, ← hd]; simp
    have hH : HoldsK BlmE.cells 6 w g 0 d := holds_recs hg hds (by rw [htake, hd])
    have hglt : g < w.heap.size := (Array.getElem?_eq_some_iff.1 hg).1
    have hcon := blames_sort g cap d w hH hglt (by omega)
    rw [hds] at hcon
    refine hcon.mono ?_
    rintro e w' ⟨rfl, d', m, os, hp, hs, rfl⟩
    rw [← hds] at hp hs
    have hd's : d'.size = n := by rw [hp.1, hds]
    obtain ⟨cur', h1, h2, h3⟩ := sortRecs_block (E := BlmE) (m := m) os hg hd's (by rw [hcs]; omega)
    refine ⟨rfl, d'.toList, ?_, sorted_recs KB cfB cfB_lt hp.1 hs, ⟨by rw [flat_len]; simp [hd's], Or.inr ⟨g, cap, cur', rfl, hBg, h1, hnc, hcm, by rw [h2, hcs], h3⟩⟩, sortRecs_grown w g m d' os⟩
    rw [← hd]
    exact perm_recs hp
end Go.Proofs.Ytpmoelkblngamaa
