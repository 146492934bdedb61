/- slices.IndexFunc, slices.Clone over means; the functions within less and Charge: the walks; slices.Clone over means: the walks; clear over means: the law. -/
import Derived.Test.YtgpmhaeiccljaaaDoorR6
import Derived.OwnWalk
import Derived.Lib.SliceRun
import Derived.Laws.CopyRow
namespace Go.Proofs.YtgpmhaeiccljaaaDoor
open Go.RowKit Go.IntWalk

/-- The first place from k on, of n, where p holds; -1 if there is none. -/
def firstAt (p : Nat → Bool) (k : Nat) : Nat → Int
  | 0 => -1
  | n + 1 => if p k then k else firstAt p (k + 1) n

theorem firstAt_step (p : Nat → Bool) (n i : Nat) (h : i < n) : firstAt p i (n - i) = if p i then (i : Int) else firstAt p (i + 1) (n - (i + 1)) := by
  obtain ⟨m, hm⟩ : ∃ m, n - i = m + 1 := ⟨n - i - 1, by omega⟩
  rw [hm, firstAt, show n - (i + 1) = m from by omega]


set_option maxRecDepth 10000 in
set_option maxHeartbeats 400000 in
theorem index_means (f : Nat) (cap : Array Value) (p : MeanT → Bool) (ra : Option Addr) (n c : Nat) (l : List MeanT) (w : World)
    (hn : n ≤ 4000) (hcf : ∀ (args : Array Value) (w : World), (callFunc f args).run Tryd.prog w = .ok (.enter f args) w) (hM : Means w ra n l)
    (hcl : ∀ k wr, Below w.heap.size w wr → k < n → Calls Tryd.prog f (#[.agg #[.string (bs (nm l k)), .int .i64 (am l k)]] ++ cap) wr fun e w' => e = .returned (.bool (p (nm l k, am l k))) ∧ Below wr.heap.size wr w') :
    Calls Tryd.prog 35 #[.slice ra n c, .func (.func f) #[] cap] w fun e w' => e = .returned (.int .i64 (firstAt (fun k => p (nm l k, am l k)) 0 n)) ∧ Below w.heap.size w w' := by
  have HM := Lib.hid hM
  have HCL := Lib.hid hcl
  clear hM hcl
  go_enter Tryd.func35, Tryd.ntmps35
  go_wp2
  go_loopw [4, 5, 8] (fun _ _ k wr => ∃ i : Nat, i ≤ n ∧ k = .int .i64 i ∧ Below w.heap.size w wr ∧ Hid (firstAt (fun k => p (nm l k, am l k)) 0 n = firstAt (fun k => p (nm l k, am l k)) i (n - i)))
    (fun _ _ k _ => n - (intOf k).toNat)
  case atStart => exact ⟨0, Nat.zero_le _, rfl, Below.refl _ _, rfl⟩
  case round =>
    obtain ⟨i, hi, rfl, hb, HR⟩ := hrel
    by_cases hlt : i < n
    · obtain ⟨b, o, rfl, r0, r1⟩ := Means.at (HM.out.below hb) i hlt
      have HC := Lib.hid (HCL.out i wr hb hlt)
      have HS := Lib.hid (firstAt_step (fun k => p (nm l k, am l k)) n i hlt)
      obtain ⟨q, hq⟩ : ∃ q, q = p (nm l i, am l i) := ⟨_, rfl⟩
      rw [← hq] at HC HS
      clear hq
      go_wp2_with fail
      refine HC.out.mono ?_
      rintro e w1 ⟨rfl, hb1⟩
      have hb2 := Lib.hid (hb.trans (hb1.mono hb.size))
      clear hb hb1 r0 r1
      cases q
      · go_wp2
        go_roundw
        case rel => exact ⟨i + 1, by omega, by go_num, hb2.out, by rw [HR.out, HS.out]; simp [Hid]⟩
        case measure => simp [intOf]; omega
      · go_wp2
        go_ret
        exact ⟨by rw [HR.out, HS.out]; simp, hb2.out⟩
    · go_wp2
      go_ret
      exact ⟨by rw [HR.out, show n - i = 0 from by omega]; rfl, hb⟩

/-- Of which means it is. -/
theorem less1_any (x : MeanT) (T : Nat) (t : Name) (w : World) (h : w.cell? ⟨T, 0, none⟩ = some (.string (bs t))) :
    Calls Tryd.prog 43 #[.agg #[.string (bs x.1), .int .i64 x.2], .pointer (some ⟨T, 0, none⟩)] w fun e w' => e = .returned (.bool (decide (x.1 = t))) ∧ Below w.heap.size w w' := by
  have hT := cell_lt h
  have e1 := bs_beq x.1 t
  have HB : Hid (Below w.heap.size w (w.alloc (.cells #[.string (bs x.1), .int .i64 x.2] 46))) := Joins.below_alloc1 w _
  have HX : Hid (Boxed2 (w.alloc (.cells #[.string (bs x.1), .int .i64 x.2] 46)) w.heap.size (.string (bs x.1)) (.int .i64 x.2)) := World.alloc_heap_new w _
  go_enter Tryd.func43, Tryd.ntmps43
  go_upto_region 1 with fail
  have HT := Lib.hid (Below.cell_of HB.out h)
  generalize w.alloc (.cells #[.string (bs x.1), .int .i64 x.2] 46) = w1 at *
  have x0 := HX.out.c0
  have x1 := HT.out
  go_wp2_with fail
  go_ret
  exact ⟨rfl, HB.out⟩

theorem less2_any (x : MeanT) (w : World) :
    Calls Tryd.prog 45 #[.agg #[.string (bs x.1), .int .i64 x.2]] w fun e w' => e = .returned (.bool (decide (x.2 = 0))) ∧ Below w.heap.size w w' := by
  have e1 : (x.2 == 0) = decide (x.2 = 0) := by cases h : decide (x.2 = 0) <;> simp_all
  have HB : Hid (Below w.heap.size w (w.alloc (.cells #[.string (bs x.1), .int .i64 x.2] 46))) := Joins.below_alloc1 w _
  have HX : Hid (Boxed2 (w.alloc (.cells #[.string (bs x.1), .int .i64 x.2] 46)) w.heap.size (.string (bs x.1)) (.int .i64 x.2)) := World.alloc_heap_new w _
  go_enter Tryd.func45, Tryd.ntmps45
  go_upto_region 1 with fail
  generalize w.alloc (.cells #[.string (bs x.1), .int .i64 x.2] 46) = w1 at *
  have x0 := HX.out.c1
  go_wp2_with fail
  go_ret
  exact ⟨rfl, HB.out⟩

theorem charge1_any (x : MeanT) (T : Nat) (t : Name) (w : World) (h : w.cell? ⟨T, 0, none⟩ = some (.string (bs t))) :
    Calls Tryd.prog 36 #[.agg #[.string (bs x.1), .int .i64 x.2], .pointer (some ⟨T, 0, none⟩)] w fun e w' => e = .returned (.bool (decide (x.1 = t))) ∧ Below w.heap.size w w' := by
  have hT := cell_lt h
  have e1 := bs_beq x.1 t
  have HB : Hid (Below w.heap.size w (w.alloc (.cells #[.string (bs x.1), .int .i64 x.2] 46))) := Joins.below_alloc1 w _
  have HX : Hid (Boxed2 (w.alloc (.cells #[.string (bs x.1), .int .i64 x.2] 46)) w.heap.size (.string (bs x.1)) (.int .i64 x.2)) := World.alloc_heap_new w _
  go_enter Tryd.func36, Tryd.ntmps36
  go_upto_region 1 with fail
  have HT := Lib.hid (Below.cell_of HB.out h)
  generalize w.alloc (.cells #[.string (bs x.1), .int .i64 x.2] 46) = w1 at *
  have x0 := HX.out.c0
  have x1 := HT.out
  go_wp2_with fail
  go_ret
  exact ⟨rfl, HB.out⟩
end Go.Proofs.YtgpmhaeiccljaaaDoor
namespace Go.Proofs.YtgpmhaeiccljaaaDoor
open Go.RowKit Go.IntWalk

theorem own_cap {w : World} {B k n c : Nat} {T : TypeId} {la : Option Addr} {xs : List Value} (h : w.ownsRow B T k (.slice la n c) n xs) : n ≤ c := by
  rcases h.2 with ⟨_, h⟩ | ⟨g, cap, cur, e, _, _, h, _⟩
  · omega
  · cases e; exact h

set_option maxRecDepth 10000 in
theorem clone_list (ra : Option Addr) (n c : Nat) (l : List MeanT) (w : World) (hM : Means w ra n l) (hn : n ≤ 1000) :
    Calls Tryd.prog 31 #[.slice ra n c] w fun e w' => ∃ la k c', e = .returned (.slice la k c') ∧ k ≤ c' ∧ Below w.heap.size w w' ∧ OwnRecs MeanE w' w.heap.size 46 la k l := by
  have hlen := hM.1
  cases ra with
  | none =>
    have h0 : n = 0 := by
      rcases Nat.eq_zero_or_pos n with h | h
      · exact h
      · obtain ⟨b, o, e, _⟩ := hM.2 0 h; simp at e
    have hl : l = [] := List.length_eq_zero_iff.mp (by omega)
    subst hl
    subst h0
    have hnil := fun w => Lib.run_eql_slice_nil (P := Tryd.prog) w 22 46 none 0 c 0 0 Tryd.underlying22
    go_enter Tryd.func31, Tryd.ntmps31
    go_wp2_with fail
    go_ret
    exact ⟨none, 0, 0, rfl, Nat.le_refl _, Below.refl _ _, OwnRecs.nil⟩
  | some ad =>
    have hnil := fun w => Lib.run_eql_slice_nil (P := Tryd.prog) w 22 46 (some ad) n c 0 0 Tryd.underlying22
    have HM := Lib.hid (hM.below (Joins.below_alloc1 w (.cells #[] 46)))
    clear hM
    obtain ⟨i1, hj, hj0, hj1, hj2⟩ := info_parts info_mean
    have HOW := Lib.hid (World.ownsRow_made (e := 46) (size := 2) w #[] 0 (Nat.le_refl _) (by unfold maxLen; omega) rfl)
    have hfl : (flat MeanE l).length = n * 2 := by rw [flat_len, hlen]
    have HFC := Lib.hid (flat_cells HM.out)
    go_enter Tryd.func31, Tryd.ntmps31
    go_wp2_with (at_builtin; refine wpList_append_own _ rfl _ _ 22 rfl w.heap.size 46 i1 _ 2 24 Tryd.underlying22 hj hj0 hj1 hj2 rfl (by decide) _ 0 [] rfl HOW.out ad n c (flat MeanE l) rfl hfl HFC.out flat_one (by unfold maxLen; omega) (by omega) (by simp) ?_; skip)
    intro v' w3 hown' hgrow _
    have HN := Lib.hid (And.intro hown' hgrow)
    clear hown' hgrow
    obtain ⟨la, c', rfl, ho⟩ := OwnRecs.of_row HN.out.1
    have HO := Lib.hid ho
    have HC := Lib.hid (own_cap HN.out.1)
    clear ho
    go_wp2_with fail
    go_ret
    exact ⟨la, n, c', rfl, HC.out, ((Below.refl _ _).alloc (Nat.le_refl _) _).grown HN.out.2 (by simp) (fun k hk => by simp [Value.ownBlock] at hk; omega), HO.out⟩

set_option maxRecDepth 10000 in
theorem clone_means (ra : Option Addr) (n c : Nat) (l : List MeanT) (w : World) (hM : Means w ra n l) (hn : n ≤ 1000) :
    Calls Tryd.prog 33 #[.slice ra n c] w fun e w' => ∃ la k c', e = .returned (.slice la k c') ∧ k ≤ c' ∧ Below w.heap.size w w' ∧ OwnRecs MeanE w' w.heap.size 46 la k l := by
  have hlen := hM.1
  cases ra with
  | none =>
    have h0 : n = 0 := by
      rcases Nat.eq_zero_or_pos n with h | h
      · exact h
      · obtain ⟨b, o, e, _⟩ := hM.2 0 h; simp at e
    have hl : l = [] := List.length_eq_zero_iff.mp (by omega)
    subst hl
    subst h0
    have hnil := fun w => Lib.run_eql_slice_nil (P := Tryd.prog) w 55 46 none 0 c 0 0 Tryd.underlying55
    go_enter Tryd.func33, Tryd.ntmps33
    go_wp2_with fail
    go_ret
    exact ⟨none, 0, 0, rfl, Nat.le_refl _, Below.refl _ _, OwnRecs.nil⟩
  | some ad =>
    have hnil := fun w => Lib.run_eql_slice_nil (P := Tryd.prog) w 55 46 (some ad) n c 0 0 Tryd.underlying55
    have HM := Lib.hid (hM.below (Joins.below_alloc1 w (.cells #[] 46)))
    clear hM
    obtain ⟨i1, hj, hj0, hj1, hj2⟩ := info_parts info_mean
    have HOW := Lib.hid (World.ownsRow_made (e := 46) (size := 2) w #[] 0 (Nat.le_refl _) (by unfold maxLen; omega) rfl)
    have hfl : (flat MeanE l).length = n * 2 := by rw [flat_len, hlen]
    have HFC := Lib.hid (flat_cells HM.out)
    go_enter Tryd.func33, Tryd.ntmps33
    go_wp2_with (at_builtin; refine wpList_append_own _ rfl _ _ 55 rfl w.heap.size 46 i1 _ 2 24 Tryd.underlying55 hj hj0 hj1 hj2 rfl (by decide) _ 0 [] rfl HOW.out ad n c (flat MeanE l) rfl hfl HFC.out flat_one (by unfold maxLen; omega) (by omega) (by simp) ?_; skip)
    intro v' w3 hown' hgrow _
    have HN := Lib.hid (And.intro hown' hgrow)
    clear hown' hgrow
    obtain ⟨la, c', rfl, ho⟩ := OwnRecs.of_row HN.out.1
    have HO := Lib.hid ho
    have HC := Lib.hid (own_cap HN.out.1)
    clear ho
    go_wp2_with fail
    go_ret
    exact ⟨la, n, c', rfl, HC.out, ((Below.refl _ _).alloc (Nat.le_refl _) _).grown HN.out.2 (by simp) (fun k hk => by simp [Value.ownBlock] at hk; omega), HO.out⟩

end Go.Proofs.YtgpmhaeiccljaaaDoor
namespace Go.Proofs.YtgpmhaeiccljaaaDoor
open Go.RowKit Go.IntWalk

theorem zeroM (w : World) : (zeroValue 46).run Tryd.prog w = .ok (.agg #[.string ⟨#[]⟩, .int .i64 0]) w := by kernel_rfl

theorem zc_len (n : Nat) : (Builtin.zeroCells (Value.agg #[.string ⟨#[]⟩, .int .i64 0]).cells n).toList.length = n * 2 := by
  simp [Builtin.zeroCells, Value.cells]
  try omega

theorem zc_one (n : Nat) : ∀ v ∈ (Builtin.zeroCells (Value.agg #[.string ⟨#[]⟩, .int .i64 0]).cells n).toList, v.oneCell' = true := by
  intro v hv
  simp [Builtin.zeroCells, Value.cells] at hv
  obtain ⟨i, hi, rfl⟩ := hv
  rcases Nat.mod_two_eq_zero_or_one i with h | h <;> simp [h] <;> rfl

theorem clear_run (w : World) (g : Nat) (T : TypeId) (cur : Array Value) (hb : w.heap[g]? = some (.cells cur T (0, 0))) (o n c : Nat) (hsz : o + n * 2 ≤ cur.size) :
    ∃ cur' : Array Value, (∀ j, j < o → cur'[j]? = cur[j]?) ∧ cur'.size = cur.size ∧ ∀ ty, (Builtin.clear_ #[55] ty #[.slice (some ⟨g, o, none⟩) n c]).run Tryd.prog w = .ok (.tuple #[]) (w.setRow g cur') := by
  rcases Nat.eq_zero_or_pos n with h | h
  · subst h
    refine ⟨cur, fun _ _ => rfl, rfl, fun ty => ?_⟩
    rw [setRow_self w g cur T (0, 0) hb]
    simp [Builtin.clear_, run_underlying Tryd.underlying55]
  · obtain ⟨z, hz⟩ : ∃ z, (Builtin.zeroCells (Value.agg #[.string ⟨#[]⟩, .int .i64 0]).cells n).toList = z := ⟨_, rfl⟩
    have hl := zc_len n
    have h1 := zc_one n
    rw [hz] at hl h1
    have hst := run_storeCells_at (P := Tryd.prog) g o T z 0 cur w hb (by omega) h1
    simp only [Nat.add_zero] at hst
    refine ⟨(cur.toList.take o ++ z ++ cur.toList.drop (o + z.length)).toArray, ?_, ?_, fun ty => ?_⟩
    rotate_left 2
    · obtain ⟨m, rfl⟩ : ∃ m, n = m + 1 := ⟨n - 1, by omega⟩
      simp only [Builtin.clear_]
      simp [hz, hst]
    · intro j hj
      simp only [List.getElem?_toArray]
      rw [List.append_assoc, List.getElem?_append_left (by simp; omega), List.getElem?_take_of_lt hj, Array.getElem?_toList]
    · simp; omega
end Go.Proofs.YtgpmhaeiccljaaaDoor
