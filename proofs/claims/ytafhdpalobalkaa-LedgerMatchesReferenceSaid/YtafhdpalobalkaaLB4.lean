/- ledger: slices.SortFunc at postings. -/
import Derived.Shelf.SlSortCmp.WholeK
import Derived.Shelf.SlSortCmp.NoneTotal
import Derived.Ground.SlsfProg
import Derived.Maps.AppendAt
import Derived.Shelf.SlSortCmp.InsertionK
import Derived.Test.YtafhdpalobalkaaLB3
namespace Go.Proofs.Ytafhdpalobalkaa
open Go.Shelf Go.RowKit Go.Lib Go.Sort Go.Proofs
def Try.sortPost_ren : Go.Shelf.Ren := ⟨fun | 6 => 37 | 15 => 51 | 14 => 50 | 28 => 66 | 29 => 67 | 20 => 58 | 21 => 59 | 22 => 60 | 23 => 61 | 24 => 62 | 25 => 63 | 26 => 64 | 27 => 65 | 46 => 68 | 47 => 69 | 48 => 70 | 49 => 71 | 50 => 72 | 57 => 73 | n => n, fun | 22 => 32 | 24 => 44 | 25 => 68 | 3 => 3 | 39 => 78 | 0 => 0 | 53 => 92 | 55 => 94 | 4 => 4 | 46 => 85 | 45 => 84 | 50 => 89 | 5 => 5 | 9 => 9 | 66 => 95 | 70 => 99 | 76 => 101 | 77 => 102 | n => n, fun | n => n⟩
theorem Try.sortPost : Go.Proofs.SlLaysF0.n6 Try.prog Try.sortPost_ren where
  mixed := by kernel_rfl
  f6 := ⟨"slices.SortFunc[[]foyer/api.Posting,foyer/api.Posting]", by decide, Try.func37.trans (congrArg some (by kernel_rfl))⟩
  f14 := ⟨"slices.pdqsortCmpFunc[foyer/api.Posting]", by decide, Try.func50.trans (congrArg some (by kernel_rfl))⟩
  f15 := Try.func51.trans (congrArg some (by kernel_rfl))
  f20 := ⟨"slices.insertionSortCmpFunc[foyer/api.Posting]", by decide, Try.func58.trans (congrArg some (by kernel_rfl))⟩
  f21 := ⟨"slices.heapSortCmpFunc[foyer/api.Posting]", by decide, Try.func59.trans (congrArg some (by kernel_rfl))⟩
  f22 := ⟨"slices.breakPatternsCmpFunc[foyer/api.Posting]", by decide, Try.func60.trans (congrArg some (by kernel_rfl))⟩
  f23 := ⟨"slices.choosePivotCmpFunc[foyer/api.Posting]", by decide, Try.func61.trans (congrArg some (by kernel_rfl))⟩
  f24 := ⟨"slices.reverseRangeCmpFunc[foyer/api.Posting]", by decide, Try.func62.trans (congrArg some (by kernel_rfl))⟩
  f25 := ⟨"slices.partialInsertionSortCmpFunc[foyer/api.Posting]", by decide, Try.func63.trans (congrArg some (by kernel_rfl))⟩
  f26 := ⟨"slices.partitionEqualCmpFunc[foyer/api.Posting]", by decide, Try.func64.trans (congrArg some (by kernel_rfl))⟩
  f27 := ⟨"slices.partitionCmpFunc[foyer/api.Posting]", by decide, Try.func65.trans (congrArg some (by kernel_rfl))⟩
  f28 := Try.func66.trans (congrArg some (by kernel_rfl))
  f29 := Try.func67.trans (congrArg some (by kernel_rfl))
  f46 := ⟨"slices.siftDownCmpFunc[foyer/api.Posting]", by decide, Try.func68.trans (congrArg some (by kernel_rfl))⟩
  f47 := Try.func69.trans (congrArg some (by kernel_rfl))
  f48 := Try.func70.trans (congrArg some (by kernel_rfl))
  f49 := ⟨"slices.medianAdjacentCmpFunc[foyer/api.Posting]", by decide, Try.func71.trans (congrArg some (by kernel_rfl))⟩
  f50 := ⟨"slices.medianCmpFunc[foyer/api.Posting]", by decide, Try.func72.trans (congrArg some (by kernel_rfl))⟩
  f57 := ⟨"slices.order2CmpFunc[foyer/api.Posting]", by decide, Try.func73.trans (congrArg some (by kernel_rfl))⟩
  t0 := Try.underlying0
  a0 := Try.isAgg0
  z0 := Try.sizeOf0
  v0 := Try.zeroValue0
  t3 := Try.underlying3
  a3 := Try.isAgg3
  z3 := Try.sizeOf3
  v3 := Try.zeroValue3
  t4 := Try.underlying4
  a4 := Try.isAgg4
  z4 := Try.sizeOf4
  v4 := Try.zeroValue4
  t5 := Try.underlying5
  a5 := Try.isAgg5
  z5 := Try.sizeOf5
  v5 := Try.zeroValue5
  t9 := Try.underlying9
  a9 := Try.isAgg9
  z9 := Try.sizeOf9
  v9 := Try.zeroValue9
  t22 := Try.underlying32
  a22 := Try.isAgg32
  z22 := Try.sizeOf32
  v22 := Try.zeroValue32
  t25 := Try.underlying68
  a25 := Try.isAgg68
  z25 := Try.sizeOf68
  v25 := Try.zeroValue68
  t39 := Try.underlying78
  a39 := Try.isAgg78
  z39 := Try.sizeOf78
  v39 := Try.zeroValue78
  t45 := Try.underlying84
  a45 := Try.isAgg84
  z45 := Try.sizeOf84
  v45 := Try.zeroValue84
  t46 := Try.underlying85
  a46 := Try.isAgg85
  z46 := Try.sizeOf85
  v46 := Try.zeroValue85
  t50 := Try.underlying89
  a50 := Try.isAgg89
  z50 := Try.sizeOf89
  v50 := Try.zeroValue89
  t53 := Try.underlying92
  a53 := Try.isAgg92
  z53 := Try.sizeOf92
  v53 := Try.zeroValue92
  t55 := Try.underlying94
  a55 := Try.isAgg94
  z55 := Try.sizeOf94
  v55 := Try.zeroValue94
  t66 := Try.underlying95
  a66 := Try.isAgg95
  z66 := Try.sizeOf95
  v66 := Try.zeroValue95
  t70 := Try.underlying99
  a70 := Try.isAgg99
  z70 := Try.sizeOf99
  v70 := Try.zeroValue99
  t76 := Try.underlying101
  a76 := Try.isAgg101
  z76 := Try.sizeOf101
  v76 := Try.zeroValue101
  t77 := Try.underlying102
  a77 := Try.isAgg102
  z77 := Try.sizeOf102
  v77 := Try.zeroValue102

theorem flatK_is (d : Array PostT) : flatK PostE.cells 3 d = (flat PostE d.toList).toArray := by
  apply Array.ext
  · simp [flat_len]
  · intro k h1 h2
    have hk : k < d.size * 3 := by simpa using h1
    have hd : k / 3 < d.size := by omega
    have hh := get_flatK PostE.cells 3 d k hk
    rw [getElem!_pos _ k h1] at hh
    rw [hh, getElem!_pos d (k / 3) hd]
    have g1 := flat_get (E := PostE) d.toList (k / 3) (k % 3) (by simpa using hd) (Nat.mod_lt _ (by decide))
    rw [show k / 3 * 3 + k % 3 = k from by omega, rc_eq _ _ (by simpa using hd)] at g1
    have h3 := (List.getElem?_eq_some_iff.1 g1).2
    refine Eq.trans ?_ ((List.getElem_toArray _).trans h3).symm
    have hl : k % 3 < (PostE.cells (d[k / 3]'hd)).length := by rw [PostE.len]; exact Nat.mod_lt _ (by decide)
    simp only [Array.getElem_toList, List.getD_eq_getElem?_getD, List.getElem?_eq_getElem hl, Option.getD_some]
    rw [getElem!_pos (PostE.cells (d[k / 3]'hd)) (k % 3) hl]

theorem holds_posts {w : World} {b : Nat} {cur : Array Value} {T n : Nat} {d : Array PostT} (hg : w.heap[b]? = some (.cells cur T (0, 0))) (hd : d.size = n)
    (ht : cur.toList.take (n * 3) = flat PostE d.toList) : HoldsK PostE.cells 3 w b 0 d := by
  unfold HoldsK
  rw [flatK_is]
  intro j hj
  have hl : (flat PostE d.toList).length = n * 3 := by rw [flat_len]; simp [hd]
  have hj2 : j < n * 3 := by rw [← hl]; simpa using hj
  refine ⟨?_, by simp [World.frozen?, hg]⟩
  have : (cur.toList.take (n * 3))[j]? = (flat PostE d.toList)[j]? := by rw [ht]
  rw [List.getElem?_take, if_pos hj2, Array.getElem?_toList] at this
  simp only [World.cell?, hg, Nat.zero_add]
  rw [show (Option.some (id (flat PostE d.toList).toArray[j]!)) = (flat PostE d.toList)[j]? from by
    rw [getElem!_pos _ j (by simpa using hj)]
    simp only [id, List.getElem_toArray]
    rw [List.getElem?_eq_getElem]]
  exact this

theorem perm_posts {d d' : Array PostT} (h : PermIn 0 d.size d d') : d'.toList.Perm d.toList := by
  have := h.2.2
  have e : d'.toList.take d.size = d'.toList := List.take_of_length_le (by simp [h.1])
  simpa [e] using this

theorem cmpI_lt {a b : Int} : cmpI a b < 0 ↔ a < b := by
  unfold cmpI
  by_cases h1 : a < b
  · simp [h1]
  · rw [if_neg h1]; by_cases h2 : b < a <;> simp [h1, h2]

theorem cmpI_eq {a b : Int} : cmpI a b = 0 ↔ a = b := by
  unfold cmpI
  by_cases h1 : a < b
  · simp [h1]; omega
  · rw [if_neg h1]; by_cases h2 : b < a
    · simp [h2]; omega
    · simp [h2]; omega

theorem cmpN_lt {a b : Name} : cmpN a b < 0 ↔ Op.bytesLess a b = true := by
  unfold cmpN
  by_cases h1 : Op.bytesLess a b = true
  · simp [h1]
  · rw [if_neg h1]; by_cases h2 : Op.bytesLess b a = true <;> simp [h1, h2]

theorem cfP_lt (x y : PostT) : ltOf cfP x y = befA x.1 y.1 := by
  unfold ltOf cfP orI befA
  by_cases e : x.1.1 = y.1.1
  · have h0 : cmpI x.1.1 y.1.1 = 0 := cmpI_eq.mpr e
    rw [if_pos h0]
    rw [Bool.eq_iff_iff, decide_eq_true_eq, cmpN_lt]
    simp [e]
  · rw [if_neg (fun h => e (cmpI_eq.mp h))]
    rw [Bool.eq_iff_iff, decide_eq_true_eq, cmpI_lt]
    simp [e]

theorem swo_cfP : SWO (ltOf cfP) := by
  refine ⟨fun x => ?_, fun x y z h1 h2 => ?_, fun x y z h1 h2 => ?_⟩
  · rw [cfP_lt]; exact befA_irrefl _
  · rw [cfP_lt] at *; exact befA_trans h1 h2
  · rw [cfP_lt] at *
    by_cases e : x.1 = y.1
    · rw [e]; exact h2
    · by_cases e2 : y.1 = z.1
      · rw [← e2]; exact h1
      · have a1 : befA y.1 x.1 = true := by rcases befA_total e with h | h; (rw [h1] at h; simp at h); exact h
        have a2 : befA z.1 y.1 = true := by rcases befA_total e2 with h | h; (rw [h2] at h; simp at h); exact h
        have a3 := befA_trans a2 a1
        cases hh : befA x.1 z.1
        · rfl
        · have := befA_trans hh a3
          rw [befA_irrefl] at this
          exact this.symm

theorem sorted_posts {d d' : Array PostT} (hs : d'.size = d.size) (h : SortedIn (ltOf cfP) 0 d.size d') : d'.toList.Pairwise (fun a b => befA b.1 a.1 = false) := by
  rw [List.pairwise_iff_getElem]
  intro i j hi hj hij
  have := h i j (Nat.zero_le _) hij (by simpa [hs] using hj)
  simp only [Array.length_toList] at hi hj
  rw [getElem!_pos d' j hj, getElem!_pos d' i hi, cfP_lt] at this
  simpa using this

theorem sortPosts_grown (w : World) (b n : Nat) (d : Array PostT) (os : Array Obj) : w.grownBy (sortWorldK PostE.cells 3 w b 0 n d os) (some b) := by
  refine ⟨rfl, rfl, rfl, size_sortWorldK_c PostE.cells 3 w b 0 n d os, fun k hk hne => ?_⟩
  have hkb : k ≠ b := fun e => hne (by rw [e])
  unfold sortWorldK grow putRowK putRow mapBlock
  show ((w.heap.modify b _) ++ os)[k]? = _
  rw [Array.getElem?_append_left (by simpa using hk), Array.getElem?_modify, if_neg (by omega)]

theorem sortPosts_block {w : World} {b n m : Nat} {d : Array PostT} (os : Array Obj) {cur : Array Value} {T : Nat} (hg : w.heap[b]? = some (.cells cur T (0, 0))) (hd : d.size = n) (hc : n * 3 ≤ cur.size) :
    ∃ cur' : Array Value, (sortWorldK PostE.cells 3 w b 0 m d os).heap[b]? = some (.cells cur' T (0, 0)) ∧ cur'.size = cur.size ∧ cur'.toList.take (n * 3) = flat PostE d.toList := by
  have hb : b < w.heap.size := (Array.getElem?_eq_some_iff.1 hg).1
  refine ⟨putCells id 0 (flatK PostE.cells 3 d) cur, ?_, by simp [putCells], ?_⟩
  · unfold sortWorldK grow putRowK putRow mapBlock
    show ((w.heap.modify b _) ++ os)[b]? = _
    rw [Array.getElem?_append_left (by simpa using hb), Array.getElem?_modify, if_pos rfl, hg]
    rfl
  · rw [flatK_is]
    have hl : (flat PostE d.toList).length = n * 3 := by rw [flat_len]; simp [hd]
    apply List.ext_getElem?
    intro j
    rw [List.getElem?_take, Array.getElem?_toList]
    split
    · rename_i hj
      simp only [putCells, Array.getElem?_mapIdx, Nat.zero_add, Nat.zero_le, true_and, Nat.sub_zero, List.size_toArray, hl, hj, if_true]
      rw [Array.getElem?_eq_getElem (by omega), Option.map_some, getElem!_pos _ j (by simp [hl, hj])]
      simp only [id, List.getElem_toArray]
      rw [List.getElem?_eq_getElem]
    · rename_i hj
      rw [List.getElem?_eq_none (by omega)]

theorem closure_lays (blk off size : Nat) (w : World) : CmpLays Try.prog 38 #[] PostE.cells 3 cfP blk off size w :=
  fun _ _ _ _ x y => closure_any x y _

theorem enter_closure : ∀ (args : Array Value) (w : World), (callFunc 38 args).run Try.prog w = .ok (.enter 38 args) w := enters_of Try.func38 (by kernel_rfl) rfl

theorem sort_posts (v : Value) (n B : Nat) (L : List PostT) (w : World) (hn : n ≤ 4000) (ho : w.ownsRow B 44 3 v n (flat PostE L)) :
    Calls Try.prog 37 #[v, .func (.func 38) #[] #[]] w fun e w' => e = .returned (.tuple #[]) ∧
      ∃ L' : List PostT, L'.Perm L ∧ L'.Pairwise (fun a b => befA b.1 a.1 = false) ∧ w'.ownsRow B 44 3 v n (flat PostE L') ∧ w.grownBy w' v.ownBlock := by
  have hL : L.length = n := by have := ho.1; rw [flat_len] at this; omega
  rcases ho.2 with ⟨rfl, rfl⟩ | ⟨g, cap, cur, rfl, hBg, hg, hnc, hcm, hcs, htake⟩
  · have hcon := AnyF.slices_SortFunc_none Try.sortPost none 0 (.func (.func 38) #[] #[]) w
    change Calls Try.prog 37 _ _ _ at hcon
    refine hcon.mono ?_
    rintro e w' ⟨rfl, rfl⟩
    obtain rfl : L = [] := List.eq_nil_of_length_eq_zero hL
    exact ⟨rfl, [], List.Perm.refl _, List.Pairwise.nil, ho, ⟨rfl, rfl, rfl, Nat.le_refl _, fun _ _ _ => rfl⟩⟩
  · obtain ⟨d, hd⟩ : ∃ d : Array PostT, d.toList = L := ⟨L.toArray, by simp⟩
    have hds : d.size = n := by rw [← hL, ← hd]; simp
    have hH : HoldsK PostE.cells 3 w g 0 d := holds_posts hg hds (by rw [htake, hd])
    have hglt : g < w.heap.size := (Array.getElem?_eq_some_iff.1 hg).1
    have hcon := AnyQ.slices_SortFunc Try.sortPost 3 Try.isAgg44 Try.sizeOf44 PostE.cells (fun x => PostE.len x) (fun x v hv => PostE.one x v hv) cfP swo_cfP 38 #[] g 0 cap d w enter_closure (closure_lays g 0 d.size w) hH hglt (by omega)
    change Calls Try.prog 37 _ _ _ at hcon
    rw [hds] at hcon
    refine hcon.mono ?_
    rintro e w' ⟨rfl, d', m, os, hp, hs, rfl⟩
    rw [← hds] at hp hs
    have hd's : d'.size = n := by rw [hp.1, hds]
    obtain ⟨cur', h1, h2, h3⟩ := sortPosts_block (m := m) os hg hd's (by rw [hcs]; omega)
    refine ⟨rfl, d'.toList, ?_, sorted_posts hp.1 hs, ⟨by rw [flat_len]; simp [hd's], Or.inr ⟨g, cap, cur', rfl, hBg, h1, hnc, hcm, by rw [h2, hcs], h3⟩⟩, sortPosts_grown w g m d' os⟩
    rw [← hd]
    exact perm_posts hp
end Go.Proofs.Ytafhdpalobalkaa
