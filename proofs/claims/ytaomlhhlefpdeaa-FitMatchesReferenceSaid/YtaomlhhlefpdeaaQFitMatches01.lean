/- foyerlaw22.FitFewer: the walk (printed by wip/ffgen.py); foyerref22.Check: the walk (printed by wip/rcgen.py); foyerlaw22.FitMatchesReference: the walk (printed by wip/fmgen.py); What an argument of type Proof gives the walks. -/
import Derived.Test.YtaomlhhlefpdeaaQFitBound17
import Derived.Test.YtaomlhhlefpdeaaQFitBound25
import Derived.Test.YtaomlhhlefpdeaaQFitBound28
import Derived.Test.YtaomlhhlefpdeaaQFitBound51
import Derived.Test.YtaomlhhlefpdeaaQFitBound53
import Derived.Test.YtaomlhhlefpdeaaQFitMatches00
import Derived.BigRegion
import Derived.ArgAppend

namespace Go.Proofs.Ytaomlhhlefpdeaa
open Go.RowKit Go.IntWalk

/-- append of a slice of pairs to an empty one, in any world. -/
theorem copy_pairs (w : World) (b : Nat) (sa : Option Addr) (n c : Nat) (S : List (Int × Int)) (h0 : 0 < n) (hn : n ≤ 100000) (hS : Pairs w sa n S) : ∃ g yc w', (Builtin.append_ #[28, 28] 28 #[.slice (some ⟨b, 0, none⟩) 0 0, .slice sa n c]).run Try.prog w = .ok (.slice (some ⟨g, 0, none⟩) n yc) w' ∧
    Below w.heap.size w w' ∧ w.heap.size ≤ g ∧ PairRow w' g 39 S := by
  obtain ⟨i0, hi, hz0, hz1, hz2⟩ := spotInfo
  obtain ⟨ab, ao, rfl, _⟩ := hS.2 0 h0
  obtain ⟨v', w', hr, h2, h3⟩ := run_append_arg_grows (P := Try.prog) w 28 28 39 i0 (.agg #[.int .i64 0, .int .i64 0]) 2 16 Try.underlying28 hi hz0 hz1 hz2 rfl (by decide) ⟨b, 0, none⟩ 0 0 [] rfl (fun j u hj => by simp at hj) ⟨ab, ao, none⟩ n c (pcells S)
    (by rw [pcells_length, hS.1]) (pcells_cells hS) (by omega) (by unfold maxLen; omega) (by omega)
  rw [Nat.zero_add, List.nil_append] at h2
  obtain ⟨g, yc, rfl, _, hg, _, hrow⟩ := PairRow.of_row h0 h2
  exact ⟨g, yc, w', hr, ⟨h3.os, h3.tape, h3.output, h3.size, fun i hi => h3.block i hi (by simp)⟩, hg, hrow⟩

/-- What each of the four steps of 'y := ..' leaves. -/
def FY (B m : Nat) (V : Int) (S : List (Int × Int)) (k : Nat) (u : Value) (w : World) : Prop :=
  match k with
  | 0 => ∃ b, u = .slice (some ⟨b, 0, none⟩) 0 0
  | 1 => ∃ g yc, u = .slice (some ⟨g, 0, none⟩) m yc ∧ B ≤ g ∧ PairRow w g 39 S
  | 2 => ∃ g yc, u = .agg #[.slice (some ⟨g, 0, none⟩) m yc, .int .i64 V] ∧ B ≤ g ∧ PairRow w g 39 S
  | _ => ∃ b, u = .pointer (some ⟨b, 0, none⟩) ∧ B ≤ b ∧ Box w b 30 #[.slice none 0 0, .int .i64 0]

theorem FY.below {B m : Nat} {V : Int} {S : List (Int × Int)} (k : Nat) (u : Value) (w w' : World) (h : FY B m V S k u w) (hb : Below w.heap.size w w') : FY B m V S k u w' := by
  unfold FY at *
  match k with
  | 0 => exact h
  | 1 => obtain ⟨g, yc, e, hg, r⟩ := h; exact ⟨g, yc, e, hg, r.of_heap (hb.block _ r.lt)⟩
  | 2 => obtain ⟨g, yc, e, hg, r⟩ := h; exact ⟨g, yc, e, hg, r.of_heap (hb.block _ r.lt)⟩
  | k + 3 => obtain ⟨b, e, hg, r⟩ := h; exact ⟨b, e, hg, r.below hb⟩

theorem row_not_box {w : World} {g b : Nat} {T U : TypeId} {S : List (Int × Int)} {vs : Array Value} (h : PairRow w g T S) (k : Box w b U vs) (ht : T ≠ U) : g ≠ b := by
  rintro rfl
  obtain ⟨arr, h1, _⟩ := h
  unfold Box at k
  rw [k] at h1
  simp at h1
  exact ht h1.2.symm

theorem longer_runs {R : List Int} (r : Nat) (hr : r < R.length) (d : Int) (hd : 0 ≤ d) : R.length = (R.set r (ix R r + d)).length ∧ (∀ k, k < R.length → ix R k ≤ ix (R.set r (ix R r + d)) k) := by
  refine ⟨by simp, fun k hk => ?_⟩
  rw [ix_set _ _ _ _ hr]
  split
  · rename_i e; subst e; omega
  · exact Int.le_refl _

theorem sum_le {A B : List Int} (h : A.length ≤ B.length) (hk : ∀ k, k < A.length → ix A k ≤ ix B k) (hB : ∀ k, k < B.length → 0 ≤ ix B k) : A.sum ≤ B.sum := by
  rw [← sumRows_ix, ← sumRows_ix]
  have h1 := sumRows_le (ix A) (ix B) A.length hk
  have h2 := sumRows_mono (ix B) B.length hB A.length h
  omega

theorem ix_snoc (R : List Int) (x : Int) (k : Nat) : ix (R ++ [x]) k = if k < R.length then ix R k else if k = R.length then x else 0 := by
  unfold ix
  by_cases h : k < R.length
  · rw [if_pos h]; simp [List.getD, h, List.getElem?_append_left h]
  · rw [if_neg h]
    by_cases e : k = R.length
    · subst e; simp [List.getD]
    · rw [if_neg e]
      simp only [List.getD]
      rw [List.getElem?_append_right (by omega), List.getElem?_eq_none (by simp; omega)]
      rfl

theorem fewer_bound {R R' : List Int} {G : List (Int × Int)} (hv : validS R G = true) (hv' : validS R' G = true) (h : R.length ≤ R'.length) (hk : ∀ k, k < R.length → ix R k ≤ ix R' k) : boundS R G ≤ boundS R' G := by
  have hrs := (runsOk_sum R' 4000 (by omega) (validS_parts hv').1).2.2
  exact bound_mono hv hv' (sum_le h hk (fun k hk => by have := hrs k hk; omega))

/-- append([]int{}, l...), as a row of the call's own. -/
theorem copy_ints_row (w : World) (ra : Option Addr) (n c : Nat) (L : List Int) (hn : n ≤ 100000) (hL : Ints w ra n L) : ∃ la lc w', (Builtin.append_ #[22, 22] 22 #[.slice (some ⟨w.heap.size, 0, none⟩) 0 0, .slice ra n c]).run Try.prog (w.alloc (.cells #[] 3)) = .ok (.slice la n lc) w' ∧
    Below w.heap.size w w' ∧ w'.ownsRow w.heap.size 3 1 (.slice la n lc) n (L.map (Value.int .i64)) := by
  obtain ⟨i0, hi, hz0, hz1, hz2⟩ := info_parts Try_infoInt
  have hown : (w.alloc (.cells #[] 3)).ownsRow w.heap.size 3 1 (.slice (some ⟨w.heap.size, 0, none⟩) 0 0) 0 [] := World.ownsRow_made w #[] 0 (Nat.le_refl _) (by unfold maxLen; omega) rfl
  cases ra with
  | none =>
    have h0 : n = 0 := by
      rcases Nat.eq_zero_or_pos n with h | h
      · exact h
      · obtain ⟨b, o, e, _⟩ := hL.2 0 h; simp at e
    subst h0
    have hl : L = [] := List.eq_nil_of_length_eq_zero hL.1
    subst hl
    exact ⟨_, _, _, append_nothing Try.underlying22 hi hown c, (Below.refl _ _).alloc (Nat.le_refl _) _, hown⟩
  | some ad =>
    have hnews : ∀ (j : Nat) (u : Value), (L.map (Value.int .i64))[j]? = some u → (w.alloc (.cells #[] 3)).cell? (ad.add j) = some u := by
      intro j u hj
      have hjn : j < n := by
        rw [← hL.1]
        rcases Nat.lt_or_ge j L.length with h | h
        · exact h
        · rw [List.getElem?_eq_none (by simpa using h)] at hj; simp at hj
      obtain ⟨b, o, e, hcell⟩ := hL.2 j hjn
      simp only [Option.some.injEq] at e
      subst e
      have e2 : (⟨b, o, none⟩ : Addr).add j = ⟨b, o + j, none⟩ := by unfold Addr.add; split <;> simp_all
      rw [e2, World.cell?_alloc_lt _ _ _ (cell_lt hcell), hcell]
      have hjl : j < L.length := by rw [hL.1]; exact hjn
      simp [hjl] at hj
      rw [← hj]
      simp [ix, List.getD_eq_getElem?_getD, hjl]
    obtain ⟨v', w', hr, h2, h3, _⟩ := run_append_own (P := Try.prog) (w.alloc (.cells #[] 3)) w.heap.size 22 22 3 i0 (.int .i64 0) 1 8 Try.underlying22 hi hz0 hz1 hz2 rfl (by decide) _ 0 [] hown ad n c (L.map (Value.int .i64))
      (by simp [hL.1]) hnews (by intro u hu; obtain ⟨x, _, rfl⟩ := List.mem_map.1 hu; rfl) (by unfold maxLen; omega) (by omega) (by simp)
    rw [Nat.zero_add, List.nil_append] at h2
    obtain ⟨la, lc, rfl⟩ := own_shape h2
    exact ⟨la, lc, w', hr, ((Below.refl _ _).alloc (Nat.le_refl _) _).grown h3 (by simp) (fun k hk => by simp [Value.ownBlock] at hk; omega), h2⟩

/-- One integer is appended to a row of the call's own. -/
theorem push_int2 {w : World} {B n : Nat} {v : Value} {L : List Int} (h : w.ownsRow B 3 1 v n (L.map (Value.int .i64))) (hB : B ≤ w.heap.size) (hl : n ≤ 100000) (x : Int) : ∃ la lc w',
    (Builtin.append_ #[22, 22] 22 #[v, .slice (some ⟨w.heap.size, 0, none⟩) 1 1]).run Try.prog (w.alloc (.cells #[.int .i64 x] 3)) = .ok (.slice la (n + 1) lc) w' ∧
    w'.ownsRow B 3 1 (.slice la (n + 1) lc) (n + 1) ((L ++ [x]).map (Value.int .i64)) ∧ w.grownBy w' v.ownBlock := by
  obtain ⟨i0, hi, hz0, hz1, hz2⟩ := info_parts Try_infoInt
  have hal : Below w.heap.size w (w.alloc (.cells #[.int .i64 x] 3)) := (Below.refl _ _).alloc (Nat.le_refl _) _
  have h1 : (w.alloc (.cells #[.int .i64 x] 3)).ownsRow B 3 1 v n (L.map (Value.int .i64)) := own_heap h (fun b _ hb _ => hal.block b (lt_of_block hb))
  have hbox : Box (w.alloc (.cells #[.int .i64 x] 3)) w.heap.size 3 #[.int .i64 x] := Box.new rfl
  obtain ⟨v', w', hr, h2, h3, _, _⟩ := run_append_own_at (P := Try.prog) (w.alloc (.cells #[.int .i64 x] 3)) B 22 22 3 i0 (.int .i64 0) 1 8
    Try.underlying22 hi hz0 hz1 hz2 rfl (by decide) v n _ h1 ⟨w.heap.size, 0, none⟩ 1 1 [.int .i64 x] rfl
    (fun j u hj => by
      match j, hj with
      | 0, hj => simp at hj; subst hj; exact hbox.cell 0)
    (fun u hu => by simp at hu; subst hu; rfl) (by unfold maxLen; omega) (by omega) (by simp; omega)
  obtain ⟨la, lc, rfl⟩ := own_shape h2
  exact ⟨la, lc, w', hr, by rw [List.map_append]; exact h2, ⟨h3.os.trans hal.os, h3.tape.trans hal.tape, h3.output.trans hal.output, Nat.le_trans hal.size h3.size, fun i hi hn => (h3.block i (Nat.lt_of_lt_of_le hi hal.size) hn).trans (hal.block i hi)⟩⟩

theorem own_nil {w : World} {B n : Nat} {la : Option Addr} {lc : Nat} {e : TypeId} {sz : Nat} {xs : List Value} (h : w.ownsRow B e sz (.slice la n lc) n xs) : la = none → lc = 0 := by
  rintro rfl
  rcases h.2 with ⟨e, _⟩ | ⟨b, cap, cur, e, _⟩
  · simp at e; exact e.2
  · simp at e

theorem own_ints {w : World} {B n lc : Nat} {la : Option Addr} {L : List Int} (h : w.ownsRow B 3 1 (.slice la n lc) n (L.map (Value.int .i64))) : OwnInts w B la n L := by
  obtain ⟨la', lc', e, ho⟩ := OwnInts.of_row h
  simp only [Value.slice.injEq] at e
  obtain ⟨rfl, _⟩ := e
  exact ho

theorem few_value {single : Bool} {R : List Int} {G S : List (Int × Int)} {V : Int} (h : LegalP single R G S V) : 0 ≤ V ∧ V ≤ 48000000000 := by
  obtain ⟨hv, hl, q, hq, _, rfl⟩ := h
  have hp := validS_parts hv
  have := placed_value hp.2.2 S.length q (by omega) hq
  omega

set_option maxRecDepth 20000 in
set_option maxHeartbeats 6400000 in
theorem fitFewer_any (ra ga sa : Option Addr) (n c m d k sc : Nat) (single : Bool) (V0 raw lg : Int) (R : List Int) (G S : List (Int × Int)) (w : World)
    (_hn : n ≤ 9223372036854775807) (_hm : m ≤ 9223372036854775807) (hk : k ≤ 9223372036854775807) (hR : Ints w ra n R) (hG : Pairs w ga m G) (hS : Pairs w sa k S) (hc : ra = none → c = 0) (hraw : 0 ≤ raw ∧ raw ≤ 255) (hlg : 0 ≤ lg ∧ lg ≤ 255) :
    Calls Try.prog 13 #[.agg #[.slice ra n c, .slice ga m d, .bool single], .agg #[.slice sa k sc, .int .i64 V0], .int .u8 raw, .int .u8 lg] w fun e w' => e = .returned (.bool true) ∧ Below w.heap.size w w' := by
  have hb0 : Below w.heap.size w ((w.alloc (.cells #[.slice ra n c, .slice ga m d, .bool single] 25)).alloc (.cells #[.slice sa k sc, .int .i64 V0] 30)) := ((Below.refl _ _).alloc (Nat.le_refl _) _).alloc (by simp) _
  have HP0 : Hid (ProbAt ((w.alloc (.cells #[.slice ra n c, .slice ga m d, .bool single] 25)).alloc (.cells #[.slice sa k sc, .int .i64 V0] 30)) w.heap.size n m ra ga c d single R G) := ⟨(Box.new rfl).alloc _, hR.below hb0, hG.below hb0, hc⟩
  have HX0 : Hid (PackAt ((w.alloc (.cells #[.slice ra n c, .slice ga m d, .bool single] 25)).alloc (.cells #[.slice sa k sc, .int .i64 V0] 30)) (w.heap.size + 1) k sa sc S V0) := ⟨Box.new (by simp), hS.below hb0⟩
  have HGL := Lib.hid hG.1; have HRL := Lib.hid hR.1; have HSL := Lib.hid hS.1
  have HRW : Hid (Ints w ra n R ∧ Pairs w ga m G ∧ Pairs w sa k S ∧ (ra = none → c = 0)) := ⟨hR, hG, hS, hc⟩
  clear hR hG hS hc
  go_enter Try.func13, Try.ntmps13
  go_upto_region 1 with fail
  generalize ((w.alloc (.cells #[.slice ra n c, .slice ga m d, .bool single] 25)).alloc (.cells #[.slice sa k sc, .int .i64 V0] 30)) = w0 at *
  go_wp2_with fail
  refine (head22_any _).mono ?_
  rintro e w1 ⟨rfl, hb1⟩
  have HP := Lib.hid (HP0.out.below hb1); have HX := Lib.hid (HX0.out.below hb1); have HBW := Lib.hid (hb0.trans (hb1.mono hb0.size))
  clear hb0 hb1 HP0 HX0
  have p0 := HP.out.box.cell 0
  have p1 := HP.out.box.cell 1
  have p2 := HP.out.box.cell 2
  simp only [List.getElem?_toArray, List.getElem?_cons_zero, List.getElem?_cons_succ] at p0 p1 p2
  go_wp2_with fail
  refine (few_any ra ga n c m d single 40 w1).mono ?_
  rintro e w2 ⟨rfl, hb2⟩
  have HP2 := Lib.hid (HP.out.below hb2); have HX2 := Lib.hid (HX.out.below hb2); have HBW2 := Lib.hid (HBW.out.trans (hb2.mono HBW.out.size))
  clear p0 p1 p2 hb2 HP HX HBW
  by_cases hfew : n ≤ 40 ∧ m ≤ 40
  · rw [show decide (n ≤ 40 ∧ m ≤ 40) = true from decide_eq_true hfew]
    obtain ⟨hn, hm⟩ := hfew
    have y0 := HX2.out.box.cell 0
    have y1 := HX2.out.box.cell 1
    have p0 := HP2.out.box.cell 0
    have p1 := HP2.out.box.cell 1
    have p2 := HP2.out.box.cell 2
    simp only [List.getElem?_toArray, List.getElem?_cons_zero, List.getElem?_cons_succ] at y0 y1 p0 p1 p2
    by_cases hk60 : 60 < k
    · have e1 : decide ((60 : Int) < (k : Int)) = true := by simp; omega
      go_wp2_with fail
      go_ret
      exact ⟨rfl, HBW2.out⟩
    · have e1 : decide ((60 : Int) < (k : Int)) = false := by simp; omega
      cases single
      rotate_left
      · go_wp2_with fail
        go_ret
        exact ⟨rfl, HBW2.out⟩
      go_wp2_with fail
      refine (legal_any ra ga sa n c m d k sc false V0 R G S w2 (by omega) (by omega) (by omega) HP2.out.runs HP2.out.groups HX2.out.spots).mono ?_
      rintro e w3 ⟨q, rfl, hb3, hq⟩
      have HP3 := Lib.hid (HP2.out.below hb3); have HX3 := Lib.hid (HX2.out.below hb3); have HBW3 := Lib.hid (HBW2.out.trans (hb3.mono HBW2.out.size))
      have HQ := Lib.hid hq
      clear y0 y1 p0 p1 p2 hb3 HP2 HX2 HBW2 hq e1
      have p1 := HP3.out.box.cell 1
      simp only [List.getElem?_toArray, List.getElem?_cons_zero, List.getElem?_cons_succ] at p1
      cases q
      · go_wp2_with fail
        go_ret
        exact ⟨rfl, HBW3.out⟩
      · have HL := Lib.hid (HQ.out.mp rfl)
        obtain rfl : m = k := by rw [← HSL.out, ← HGL.out]; exact HL.out.2.1.symm
        by_cases hm0 : m = 0
        · have e1 : ((m : Int) == 0) = true := by simp; omega
          go_wp2_with fail
          go_ret
          exact ⟨rfl, HBW3.out⟩
        · have e1 : ((m : Int) == 0) = false := by simp; omega
          have hm1 : 0 < m := Nat.pos_of_ne_zero hm0
          obtain ⟨i, hi⟩ : ∃ i : Nat, raw % (m : Int) = (i : Int) := ⟨(raw % (m : Int)).toNat, by have := Int.emod_nonneg raw (show (m : Int) ≠ 0 by omega); omega⟩
          have him : i < m := by have := Int.emod_lt_of_pos raw (show 0 < (m : Int) by omega); omega
          have hi2 : raw.tmod (m : Int) = (i : Int) := by rw [Int.tmod_eq_emod_of_nonneg hraw.1]; exact hi
          have HI := Lib.hid hi
          obtain ⟨z, hz⟩ : ∃ z, lg % 20 = z := ⟨_, rfl⟩
          have hz2 : lg.tmod 20 = z := by rw [Int.tmod_eq_emod_of_nonneg hlg.1]; exact hz
          have HZ : Hid (lg % 20 = z ∧ lg.tmod 20 = z) := ⟨hz, hz2⟩
          have hz0 : 0 ≤ z := by omega
          have hz1 : z ≤ 19 := by omega
          have hn100 : n ≤ 100000 := by omega
          clear HQ hm0 hz hz2
          go_upto_region 5 with fail
          clear hi hi2 e1 p1
          have HBW : Hid (∀ x : World, Below w3.heap.size w3 x → Below w.heap.size w x) := fun x h => HBW3.out.trans (h.mono HBW3.out.size)
          have hs3 : w.heap.size + 1 < w3.heap.size := lt_of_block HX3.out.box
          refine wp_region_held_drew (S := fun w' => Below w3.heap.size w3 w') (by kernel_rfl) ((Below.refl _ _).drew) (fun hHeld => ?_)
          refine take_at (i := 1) (v := ?_) 49 rfl rfl (by kernel_rfl) (by kernel_rfl) (by kernel_rfl) (fun _ _ _ h => h) (Or.inl ⟨by rfl, ?_⟩) hHeld ?_
          rotate_left
          · intro w hSw; go_simp <;> with_reducible rfl
          try simp only [Act.put, List.setIfInBounds_toArray, List.set_cons_zero, List.set_cons_succ]
          refine take_at (i := 2) (v := ?_) 50 rfl rfl (by kernel_rfl) (by kernel_rfl) (by kernel_rfl) (fun _ _ _ h => h) (Or.inl ⟨by rfl, ?_⟩) hHeld ?_
          rotate_left
          · intro w hSw
            have q0 := (HX3.out.below hSw).box.cell 0
            have q1 := (HX3.out.below hSw).box.cell 1
            simp only [List.getElem?_toArray, List.getElem?_cons_zero, List.getElem?_cons_succ] at q0 q1
            go_simp <;> with_reducible rfl
          try simp only [Act.put, List.setIfInBounds_toArray, List.set_cons_zero, List.set_cons_succ]
          refine take_at (i := 4) (v := ?_) 52 rfl rfl (by kernel_rfl) (by kernel_rfl) (by kernel_rfl) (fun _ _ _ h => h) (Or.inl ⟨by rfl, ?_⟩) hHeld ?_
          rotate_left
          · intro w hSw; go_simp <;> with_reducible rfl
          try simp only [Act.put, List.setIfInBounds_toArray, List.set_cons_zero, List.set_cons_succ]
          refine take_at (i := 5) (v := ?_) 53 rfl rfl (by kernel_rfl) (by kernel_rfl) (by kernel_rfl) (fun _ _ _ h => h) (Or.inl ⟨by rfl, ?_⟩) hHeld ?_
          rotate_left
          · intro w hSw
            have q0 := (HX3.out.below hSw).box.cell 0
            have q1 := (HX3.out.below hSw).box.cell 1
            simp only [List.getElem?_toArray, List.getElem?_cons_zero, List.getElem?_cons_succ] at q0 q1
            go_simp <;> with_reducible rfl
          try simp only [Act.put, List.setIfInBounds_toArray, List.set_cons_zero, List.set_cons_succ]
          refine wpAnyH_effects0 [(0, 48), (3, 51), (6, 54), (7, 11)] [[], [0], [1], []] (FY w3.heap.size m V0 S) (fun _ _ => none) _ _ 1 _ ?dist ?ready FY.below hHeld ?step ?fin
          case dist => decide
          case ready => kernel_rfl
          case step =>
            intro k e v x3 hk3 he hSw hbw3 hneed
            rcases k with _ | _ | _ | _ | k
            all_goals simp only [List.getElem?_cons_zero, List.getElem?_cons_succ, List.getElem?_nil, Option.some.injEq, reduceCtorEq] at he
            all_goals subst he
            · refine wpOp_step rfl (fun K' hK => ?_)
              simp only [putAll, Act.put, List.setIfInBounds_toArray, List.set_cons_zero, List.set_cons_succ]
              go_simp
              have hb4 : Below x3.heap.size x3 (x3.alloc (.cells #[] 39)) := al _ _
              exact hK _ _ ⟨.slice (some ⟨x3.heap.size, 0, none⟩) 0 0, by simp only [putAll, Act.put, List.setIfInBounds_toArray, List.set_cons_zero, List.set_cons_succ], hSw.trans (hb4.mono hSw.size), hb4, ⟨_, rfl⟩, fun b hb => by simp at hb⟩
            · obtain ⟨b, hv0⟩ : FY w3.heap.size m V0 S 0 (v 0) x3 := hneed 0 (by simp)
              refine wpOp_step rfl (fun K' hK => ?_)
              obtain ⟨g, yc, x4, hcp, hb4, hg, hrow⟩ := copy_pairs x3 b sa m sc S hm1 (by omega) (HX3.out.below hSw).spots
              refine step_run_append rfl _ _ 28 rfl 28 rfl hcp ?_ rfl ?_
              · simp only [putAll, Act.put, List.setIfInBounds_toArray, List.set_cons_zero, List.set_cons_succ]
                exact hv0
              · exact hK _ _ ⟨.slice (some ⟨g, 0, none⟩) m yc, rfl, hSw.trans (hb4.mono hSw.size), hb4, ⟨_, _, rfl, Nat.le_trans hSw.size hg, hrow⟩, fun b hb => by simp at hb⟩
            · obtain ⟨g, yc, hv1, hg, hrow⟩ : FY w3.heap.size m V0 S 1 (v 1) x3 := hneed 1 (by simp)
              refine wpOp_step rfl (fun K' hK => ?_)
              simp only [putAll, Act.put, List.setIfInBounds_toArray, List.set_cons_zero, List.set_cons_succ]
              simp only [hv1]
              go_simp
              exact hK _ _ ⟨.agg #[.slice (some ⟨g, 0, none⟩) m yc, .int .i64 V0], by simp only [putAll, Act.put, List.setIfInBounds_toArray, List.set_cons_zero, List.set_cons_succ, hv1], hSw, Below.refl _ _, ⟨_, _, rfl, hg, hrow⟩, fun b hb => by simp at hb⟩
            · refine wpOp_step rfl (fun K' hK => ?_)
              simp only [putAll, Act.put, List.setIfInBounds_toArray, List.set_cons_zero, List.set_cons_succ]
              go_simp
              have hb4 : Below x3.heap.size x3 (x3.alloc (.cells #[.slice none 0 0, .int .i64 0] 30)) := al _ _
              exact hK _ _ ⟨.pointer (some ⟨x3.heap.size, 0, none⟩), by simp only [putAll, Act.put, List.setIfInBounds_toArray, List.set_cons_zero, List.set_cons_succ], hSw.trans (hb4.mono hSw.size), hb4, ⟨_, rfl, hSw.size, Box.new rfl⟩, fun b hb => by simp at hb⟩
          case fin =>
            intro v x4 hS4 hI
            obtain ⟨g, yc, f1, hg3, F1⟩ : FY w3.heap.size m V0 S 2 (v 2) x4 := hI.fact 2 (by decide) rfl
            obtain ⟨yb, f2, hy3, F2⟩ : FY w3.heap.size m V0 S 3 (v 3) x4 := hI.fact 3 (by decide) rfl
            have hgy : g ≠ yb := row_not_box F1 F2 (by decide)
            simp only [putAll, Act.put, List.setIfInBounds_toArray, List.set_cons_zero, List.set_cons_succ, Nat.zero_add, Nat.reduceAdd, f1, f2]
            have HF1 := Lib.hid F1
            have HF2 := Lib.hid F2
            clear f1 f2 F1 F2 hI hHeld
            have yf0 := HF2.out.free 0
            have yf1 := HF2.out.free 1
            have y0 := HF2.out.cell 0
            have y1 := HF2.out.cell 1
            simp only [List.getElem?_toArray, List.getElem?_cons_zero, List.getElem?_cons_succ] at y0 y1
            refine wpAnyH_ready (rs := [8]) (by kernel_rfl) (by simp) ?_
            refine AllReadyH.cons rfl (fun K' hK => ?_) AllReadyH.nil
            go_simp
            refine hK.out _ _ ((hS4.setCell hy3 _).setCell hy3 _) (fun hHeld => ?_)
            clear hK K' yf0 yf1 y0 y1
            refine wpAnyH_done (by kernel_rfl) ?_ _
            have HY5 : Hid (Box ((x4.setCell ⟨yb, 0, none⟩ (.slice (some ⟨g, 0, none⟩) m yc)).setCell ⟨yb, 1, none⟩ (.int .i64 V0)) yb 30 #[.slice (some ⟨g, 0, none⟩) m yc, .int .i64 V0] ∧ PairRow ((x4.setCell ⟨yb, 0, none⟩ (.slice (some ⟨g, 0, none⟩) m yc)).setCell ⟨yb, 1, none⟩ (.int .i64 V0)) g 39 S) :=
              ⟨(HF2.out.set 0 _).set 1 _, HF1.out.of_heap ((heap_set g hgy).trans (heap_set g hgy))⟩
            have HB5 := Lib.hid hHeld
            clear HF1 HF2 hS4 hHeld
            generalize ((x4.setCell ⟨yb, 0, none⟩ (.slice (some ⟨g, 0, none⟩) m yc)).setCell ⟨yb, 1, none⟩ (.int .i64 V0)) = w5 at *
            have HVV := Lib.hid (validS_parts HL.out.1).2.2
            obtain ⟨t, ht⟩ : ∃ x, gs S i = x := ⟨_, rfl⟩
            have HT := Lib.hid ht
            have y0 := HY5.out.1.cell 0
            have c1 := HY5.out.2.cell1 i (by rw [HSL.out]; exact him)
            rw [ht] at c1
            simp only [List.getElem?_toArray, List.getElem?_cons_zero] at y0
            clear ht
            go_upto_if 61 with fail
            clear y0 c1
            obtain ⟨V', hV'⟩ : ∃ x, (if 0 ≤ gs S i then V0 - gs G i * gv G i else V0) = x := ⟨_, rfl⟩
            have HV' := Lib.hid hV'
            clear hV'
            go_cut [] (fun wx => Hid (Below w3.heap.size w3 wx ∧ Box wx yb 30 #[.slice (some ⟨g, 0, none⟩) m yc, .int .i64 V'] ∧ PairRow wx g 39 S))
            case first =>
              by_cases h0 : 0 ≤ t
              · have e2 : decide (0 ≤ t) = true := by simp; exact h0
                have hgg := HVV.out i (by rw [HGL.out]; exact him)
                have hvv := few_value HL.out
                obtain ⟨gb, go, rfl, d1, d2⟩ := ((HP3.out.below HB5.out).groups).2 i him
                obtain ⟨s, hs⟩ : ∃ x, gs G i = x := ⟨_, rfl⟩
                obtain ⟨v, hv⟩ : ∃ x, gv G i = x := ⟨_, rfl⟩
                rw [hs] at d1 hgg; rw [hv] at d2 hgg
                have HE : Hid (V' = V0 - s * v) := by show _ = _; rw [← HV'.out, if_pos (by rw [HT.out]; exact h0), hs, hv]
                have m0 : 0 ≤ s * v := Int.mul_nonneg (by omega) (by omega)
                have m1 : s * v ≤ 12 * v := Int.mul_le_mul_of_nonneg_right hgg.1.2 hgg.2.1
                have m2 : s * v ≤ 12000000 := by omega
                have p1 := (HP3.out.below HB5.out).box.cell 1
                have y1 := HY5.out.1.cell 1
                have yf := HY5.out.1.free 1
                simp only [List.getElem?_toArray, List.getElem?_cons_zero, List.getElem?_cons_succ] at p1 y1
                have hw1 : wrap64 (s * v) = s * v := wrap64_in _ (by omega)
                have hw2 : wrap64 (V0 - s * v) = V0 - s * v := wrap64_in _ (by omega)
                have HS5 : Hid (Below w3.heap.size w3 (w5.setCell ⟨yb, 1, none⟩ (.int .i64 (V0 - s * v)))) := HB5.out.setCell (by show w3.heap.size ≤ yb; exact hy3) _
                clear hs hv m1
                go_upto_region 7 with fail
                go_region
                all_goals
                  go_wp2_with fail
                  go_meet
                all_goals
                  case rel => rw [HE.out]; exact ⟨HS5.out.trans (((Below.refl _ _).drew).mono HS5.out.size), HY5.out.1.set 1 _, HY5.out.2.of_heap (heap_set g hgy)⟩
              · have e2 : decide (0 ≤ t) = false := by simp; omega
                have HE : Hid (V' = V0) := by show _ = _; rw [← HV'.out, if_neg (by rw [HT.out]; exact h0)]
                go_wp2_with fail
                go_meet
                case rel => rw [HE.out]; exact ⟨HB5.out, HY5.out⟩
            case rest =>
              have HC6 := hcut
              clear hcut HB5 HY5
              obtain ⟨w6, rfl⟩ : ∃ x, x = wc := ⟨_, rfl⟩
              have y0 := HC6.out.2.1.cell 0
              have yf0 := HC6.out.2.2.free (i * 2)
              have yf1 := HC6.out.2.2.free (i * 2 + 1)
              have c1 := HC6.out.2.2.cell1 i (by rw [HSL.out]; exact him)
              have c2 := HC6.out.2.2.cell2 i (by rw [HSL.out]; exact him)
              simp only [List.getElem?_toArray, List.getElem?_cons_zero] at y0
              go_upto_region 9 with fail
              have HC7 : Hid (Below w3.heap.size w3 ((w6.setCell ⟨g, i * 2, none⟩ (.int .i64 (-1))).setCell ⟨g, i * 2 + 1, none⟩ (.int .i64 0)) ∧ Box ((w6.setCell ⟨g, i * 2, none⟩ (.int .i64 (-1))).setCell ⟨g, i * 2 + 1, none⟩ (.int .i64 0)) yb 30 #[.slice (some ⟨g, 0, none⟩) m yc, .int .i64 V'] ∧ PairRow ((w6.setCell ⟨g, i * 2, none⟩ (.int .i64 (-1))).setCell ⟨g, i * 2 + 1, none⟩ (.int .i64 0)) g 39 (S.set i (-1, 0))) :=
                ⟨(HC6.out.1.setCell (by show w3.heap.size ≤ g; exact hg3) _).setCell (by show w3.heap.size ≤ g; exact hg3) _, HC6.out.2.1.of_heap ((heap_set yb (fun e => hgy e.symm)).trans (heap_set yb (fun e => hgy e.symm))), HC6.out.2.2.set12 i (by rw [HSL.out]; exact him) (-1) 0⟩
              generalize ((w6.setCell ⟨g, i * 2, none⟩ (.int .i64 (-1))).setCell ⟨g, i * 2 + 1, none⟩ (.int .i64 0)) = w7 at *
              clear y0 yf0 yf1 c1 c2 HC6
              have p0 := (HP3.out.below HC7.out.1).box.cell 0
              have p1 := (HP3.out.below HC7.out.1).box.cell 1
              have p2 := (HP3.out.below HC7.out.1).box.cell 2
              simp only [List.getElem?_toArray, List.getElem?_cons_zero, List.getElem?_cons_succ] at p0 p1 p2
              have HB8 : Hid (Below w7.heap.size w7 (w7.alloc (.cells #[.slice ra n c, .slice ga m d, .bool false] 25))) := al _ _
              have HM8 : Hid (Box (w7.alloc (.cells #[.slice ra n c, .slice ga m d, .bool false] 25)) w7.heap.size 25 #[.slice ra n c, .slice ga m d, .bool false]) := Box.new rfl
              go_upto_region 10 with fail
              generalize (w7.alloc (.cells #[.slice ra n c, .slice ga m d, .bool false] 25)) = w8 at *
              clear p0 p1 p2
              obtain ⟨mb, hmb⟩ : ∃ x, w7.heap.size = x := ⟨_, rfl⟩
              have HMB := Lib.hid hmb
              rw [hmb] at HM8
              simp only [hmb]
              clear hmb
              have HPW : Hid (∀ x, Below w8.heap.size w8 x → ProbAt x w.heap.size n m ra ga c d false R G) := fun x hx => ((HP3.out.below HC7.out.1).below HB8.out).below hx
              obtain ⟨la1, lc1, w9, hcp, hb9, ho9⟩ := copy_ints_row w8 ra n c R hn100 (HPW.out w8 (Below.refl _ _)).runs
              have HCP1 := Lib.hid hcp
              have HB9 := Lib.hid hb9
              have HO9 := Lib.hid ho9
              clear hcp hb9 ho9
              obtain ⟨la2, lc2, w10, hcp, ho10, hg10⟩ := push_int2 HO9.out HB9.out.size hn100 (1 + z)
              have HCP2 := Lib.hid hcp
              have HO10 := Lib.hid ho10
              have HB10 : Hid (Below w8.heap.size w8 w10) := Below.grow HB9.out HB9.out.size hg10 (fun q hq => (HO9.out.lt q hq).1)
              have HM10 : Hid (Box w10 mb 25 #[.slice ra n c, .slice ga m d, .bool false]) := (HM8.out.below HB9.out).growG HO9.out hg10 (by decide)
              clear hcp ho10 hg10
              have hz := HZ.out.1
              have hz2 := HZ.out.2
              have x0 : ∀ o, (w8.alloc o).cell? ⟨w.heap.size, 0, none⟩ = some (.slice ra n c) := fun o => (HPW.out _ (al _ _)).box.cell 0
              have m0 := HM10.out.cell 0
              have mf := HM10.out.free 0
              simp only [List.getElem?_toArray, List.getElem?_cons_zero] at m0
              go_upto_region 11 with (first | (at_builtin; refine wpList_run_append rfl (.tmp 85) (.tmp 87) 22 rfl 22 rfl HCP1.out rfl rfl ?_) | (at_builtin; refine wpList_run_append rfl (.tmp 88) (.tmp 93) 22 rfl 22 rfl HCP2.out rfl rfl ?_))
              clear x0 m0 mf hz hz2 HCP1 HCP2
              have HB11 : Hid (Below w7.heap.size w7 (w10.setCell ⟨mb, 0, none⟩ (.slice la2 (n + 1) lc2))) := (HB8.out.trans (HB10.out.mono HB8.out.size)).setCell (by show w7.heap.size ≤ mb; exact Nat.le_of_eq HMB.out) _
              have HP11 : Hid (ProbAt (w10.setCell ⟨mb, 0, none⟩ (.slice la2 (n + 1) lc2)) w.heap.size n m ra ga c d false R G) := (HP3.out.below HC7.out.1).below HB11.out
              have HM11 : Hid (ProbAt (w10.setCell ⟨mb, 0, none⟩ (.slice la2 (n + 1) lc2)) mb (n + 1) m la2 ga lc2 d false (R ++ [1 + z]) G) :=
                ⟨HM10.out.set 0 _, (own_ints (own_setBox HO10.out HM10.out _ (by decide))).ints, HP11.out.groups, own_nil HO10.out⟩
              generalize (w10.setCell ⟨mb, 0, none⟩ (.slice la2 (n + 1) lc2)) = w11 at *
              clear HM10 HO10 HB10 HPW HM8 HB9 HO9 HB8
              have p0 := HP11.out.box.cell 0
              have p1 := HP11.out.box.cell 1
              have p2 := HP11.out.box.cell 2
              simp only [List.getElem?_toArray, List.getElem?_cons_zero, List.getElem?_cons_succ] at p0 p1 p2
              have HB12 : Hid (Below w11.heap.size w11 (w11.alloc (.cells #[.slice ra n c, .slice ga m d, .bool false] 25))) := al _ _
              have HL12 : Hid (Box (w11.alloc (.cells #[.slice ra n c, .slice ga m d, .bool false] 25)) w11.heap.size 25 #[.slice ra n c, .slice ga m d, .bool false]) := Box.new rfl
              have hz12 : w11.heap.size < (w11.alloc (.cells #[.slice ra n c, .slice ga m d, .bool false] 25)).heap.size := alloc_lt _ _
              go_upto_region 12 with fail
              generalize (w11.alloc (.cells #[.slice ra n c, .slice ga m d, .bool false] 25)) = w12 at *
              clear p0 p1 p2
              obtain ⟨lb, hlb⟩ : ∃ x, w11.heap.size = x := ⟨_, rfl⟩
              have HLB := Lib.hid hlb
              rw [hlb] at HL12 hz12
              simp only [hlb]
              clear hlb
              obtain ⟨la3, lc3, w13, hcp, hb13, ho13⟩ := copy_ints_row w12 ra n c R hn100 ((HP11.out.below HB12.out).runs)
              have HCP := Lib.hid hcp
              have HB13 := Lib.hid hb13
              have HO13 := Lib.hid ho13
              clear hcp hb13 ho13
              have HL13 : Hid (Box w13 lb 25 #[.slice ra n c, .slice ga m d, .bool false]) := HL12.out.below HB13.out
              have x0 : ∀ o, (w12.alloc o).cell? ⟨w.heap.size, 0, none⟩ = some (.slice ra n c) := fun o => ((HP11.out.below HB12.out).below (al _ _)).box.cell 0
              have m0 := HL13.out.cell 0
              have mf := HL13.out.free 0
              simp only [List.getElem?_toArray, List.getElem?_cons_zero] at m0
              go_upto_region 13 with (at_builtin; refine wpList_run_append rfl (.tmp 97) (.tmp 99) 22 rfl 22 rfl HCP.out rfl rfl ?_)
              clear x0 m0 mf HCP
              have HB14 : Hid (Below w11.heap.size w11 (w13.setCell ⟨lb, 0, none⟩ (.slice la3 n lc3))) := (HB12.out.trans (HB13.out.mono HB12.out.size)).setCell (by show w11.heap.size ≤ lb; exact Nat.le_of_eq HLB.out) _
              have HL14 : Hid (Box (w13.setCell ⟨lb, 0, none⟩ (.slice la3 n lc3)) lb 25 #[.slice la3 n lc3, .slice ga m d, .bool false] ∧ (w13.setCell ⟨lb, 0, none⟩ (.slice la3 n lc3)).ownsRow w12.heap.size 3 1 (.slice la3 n lc3) n (R.map (Value.int .i64))) := ⟨HL13.out.set 0 _, own_setBox HO13.out HL13.out _ (by decide)⟩
              generalize (w13.setCell ⟨lb, 0, none⟩ (.slice la3 n lc3)) = w14 at *
              clear HL13 HO13 HB13 HL12 HB12
              have m0 := HL14.out.1.cell 0
              simp only [List.getElem?_toArray, List.getElem?_cons_zero] at m0
              go_upto_if 105 with fail
              clear m0
              go_cut [] (fun wx => Hid (Below w11.heap.size w11 wx ∧ ∃ R', R'.length = n ∧ (∀ k, k < n → ix R k ≤ ix R' k) ∧ ProbAt wx lb n m la3 ga lc3 d false R' G))
              case first =>
                by_cases h0 : 0 < n
                · obtain ⟨r, hr⟩ : ∃ r : Nat, raw % (n : Int) = (r : Int) := ⟨(raw % (n : Int)).toNat, by have := Int.emod_nonneg raw (show (n : Int) ≠ 0 by omega); omega⟩
                  have hrn : r < n := by have := Int.emod_lt_of_pos raw (show 0 < (n : Int) by omega); omega
                  have hr2 : raw.tmod (n : Int) = (r : Int) := by rw [Int.tmod_eq_emod_of_nonneg hraw.1]; exact hr
                  obtain ⟨g3, hg3e, hg3l, hrow⟩ := (own_ints HL14.out.2).2 h0
                  have HROW := Lib.hid hrow
                  have hg3lb : lb ≠ g3 := by omega
                  have hle11 : w11.heap.size ≤ g3 := by have := HLB.out; omega
                  subst hg3e
                  obtain ⟨x, hx⟩ : ∃ x, ix R r = x := ⟨_, rfl⟩
                  have hx0 : 0 ≤ x ∧ x ≤ 4000 := by
                    have := (runsOk_sum R 4000 (by omega) (validS_parts HL.out.1).1).2.2 r (by rw [HRL.out]; exact hrn)
                    omega
                  have rr := HROW.out.cell r (by rw [HRL.out]; exact hrn)
                  rw [hx] at rr
                  have rf := HROW.out.free r
                  have HXR := Lib.hid hx
                  have m0 := HL14.out.1.cell 0
                  simp only [List.getElem?_toArray, List.getElem?_cons_zero] at m0
                  have hw1 : wrap64 (x + z) = x + z := wrap64_in _ (by omega)
                  have HF : Hid (Below w11.heap.size w11 (w14.setCell ⟨g3, r, none⟩ (.int .i64 (x + z))) ∧ ∃ R', R'.length = n ∧ (∀ k, k < n → ix R k ≤ ix R' k) ∧ ProbAt (w14.setCell ⟨g3, r, none⟩ (.int .i64 (x + z))) lb n m (some ⟨g3, 0, none⟩) ga lc3 d false R' G) := by
                    have hl := longer_runs (R := R) r (by rw [HRL.out]; exact hrn) z hz0
                    rw [hx] at hl
                    have hb : Below w11.heap.size w11 (w14.setCell ⟨g3, r, none⟩ (.int .i64 (x + z))) := HB14.out.setCell (by show w11.heap.size ≤ g3; exact hle11) _
                    have hi := (HROW.out.set r (by rw [HRL.out]; exact hrn) (x + z)).ints
                    rw [← hl.1, HRL.out] at hi
                    exact ⟨hb, R.set r (x + z), by rw [← hl.1, HRL.out], fun k hk => hl.2 k (by rw [HRL.out]; exact hk), ⟨HL14.out.1.of_heap (heap_set _ hg3lb), hi, (HP11.out.below hb).groups, fun e => by simp at e⟩⟩
                  have hz := HZ.out.1
                  have hz2 := HZ.out.2
                  clear hx hrow
                  go_upto_region 15 with fail
                  clear hr hr2
                  go_region
                  all_goals
                    go_wp2_with fail
                    go_meet
                  all_goals
                    case rel =>
                      obtain ⟨R', h1, h2, h3⟩ := HF.out.2
                      exact ⟨HF.out.1.trans (((Below.refl _ _).drew).mono HF.out.1.size), R', h1, h2, h3.below ((Below.refl _ _).drew)⟩
                · have HF : Hid (Below w11.heap.size w11 w14 ∧ ∃ R', R'.length = n ∧ (∀ k, k < n → ix R k ≤ ix R' k) ∧ ProbAt w14 lb n m la3 ga lc3 d false R' G) := 
                    ⟨HB14.out, R, HRL.out, fun k hk => Int.le_refl _, ⟨HL14.out.1, (own_ints HL14.out.2).ints, (HP11.out.below HB14.out).groups, own_nil HL14.out.2⟩⟩
                  go_wp2_with fail
                  go_meet
                  case rel => exact HF.out
              case rest =>
                have HC15 := hcut
                clear hcut HL14 HB14
                obtain ⟨w15, rfl⟩ : ∃ x, x = wc := ⟨_, rfl⟩
                obtain ⟨R', hR1, hR2, hL⟩ := HC15.out.2
                have HR' : Hid (R'.length = n ∧ ∀ k, k < n → ix R k ≤ ix R' k) := ⟨hR1, hR2⟩
                have HB11' : Hid (Below w3.heap.size w3 w11) := HC7.out.1.trans (HB11.out.mono HC7.out.1.size)
                have HBA : Hid (Below w3.heap.size w3 w15) := HB11'.out.trans (HC15.out.1.mono HB11'.out.size)
                have HP := Lib.hid (HP3.out.below HBA.out)
                have HX := Lib.hid (HX3.out.below HBA.out)
                have HY : Hid (PackAt w15 yb m (some ⟨g, 0, none⟩) yc (S.set i (-1, 0)) V') := by
                  have h7 : PackAt w7 yb m (some ⟨g, 0, none⟩) yc (S.set i (-1, 0)) V' := ⟨HC7.out.2.1, by have := HC7.out.2.2.pairs; rw [List.length_set, HSL.out] at this; exact this⟩
                  exact (h7.below HB11.out).below HC15.out.1
                have HM := Lib.hid (HM11.out.below HC15.out.1)
                have HLO := Lib.hid hL
                have HBX := Lib.hid (HBW.out w15 HBA.out)
                have HYL : Hid (LegalP false R G (S.set i (-1, 0)) V') := by
                  have h := fewer_legal HL.out i (by rw [HGL.out]; exact him)
                  rw [HV'.out] at h
                  exact h
                obtain ⟨vl, hvl⟩ : ∃ b, validS R' G = b := ⟨_, rfl⟩
                have HVL := Lib.hid hvl
                obtain ⟨vm, hvm⟩ : ∃ b, validS (R ++ [1 + z]) G = b := ⟨_, rfl⟩
                have HVM := Lib.hid hvm
                have HVR : Hid (validS R G = true) := HL.out.1
                have HLL : Hid (validS R' G = true → LegalP false R' G S V0 ∧ boundS R G ≤ boundS R' G) := fun h =>
                  ⟨more_legal HL.out h (by rw [HR'.out.1, HRL.out]; exact Nat.le_refl _) (fun k hk => HR'.out.2 k (by rw [← HRL.out]; exact hk)), fewer_bound HVR.out h (by rw [HR'.out.1, HRL.out]; exact Nat.le_refl _) (fun k hk => HR'.out.2 k (by rw [← HRL.out]; exact hk))⟩
                have HMX : Hid (∀ k, k < R.length → ix R k ≤ ix (R ++ [1 + z]) k) := fun k hk => by rw [ix_snoc, if_pos hk]; exact Int.le_refl _
                have HML : Hid (validS (R ++ [1 + z]) G = true → LegalP false (R ++ [1 + z]) G S V0 ∧ boundS R G ≤ boundS (R ++ [1 + z]) G) := fun h =>
                  ⟨more_legal HL.out h (by simp) HMX.out, fewer_bound HVR.out h (by simp) HMX.out⟩
                obtain ⟨b0, hb0⟩ : ∃ x, boundS R G = x := ⟨_, rfl⟩
                obtain ⟨b1, hb1⟩ : ∃ x, boundS R' G = x := ⟨_, rfl⟩
                obtain ⟨b2, hb2⟩ : ∃ x, boundS (R ++ [1 + z]) G = x := ⟨_, rfl⟩
                have HBB : Hid (boundS R G = b0 ∧ boundS R' G = b1 ∧ boundS (R ++ [1 + z]) G = b2) := ⟨hb0, hb1, hb2⟩
                have hn41 : n + 1 ≤ 4000 := by omega
                have hn40 : n ≤ 4000 := by omega
                have hm40 : m ≤ 4000 := by omega
                clear hR1 hR2 hL hvl hvm hb0 hb1 hb2 HC15 HC7 HB11 HM11 HP11 HP3 HX3 HBA HB11' hz0 hz1 hlg hraw hn hm hk60 him hm1
                go_upto_region 16 with fail
                refine wp_region_held_drew (S := fun w' => Below w15.heap.size w15 w') (by kernel_rfl) ((Below.refl _ _).drew) (fun hHeld => ?_)
                refine take_at (i := 0) (v := ?_) 125 rfl rfl (by kernel_rfl) (by kernel_rfl) (by kernel_rfl) (fun _ _ _ h => h) (Or.inl ⟨by rfl, ?_⟩) hHeld ?_
                rotate_left
                · intro w hSw
                  have q0 := (HP.out.below hSw).box.cell 0
                  have q1 := (HP.out.below hSw).box.cell 1
                  have q2 := (HP.out.below hSw).box.cell 2
                  simp only [List.getElem?_toArray, List.getElem?_cons_zero, List.getElem?_cons_succ] at q0 q1 q2
                  go_simp <;> with_reducible rfl
                try simp only [Act.put, List.setIfInBounds_toArray, List.set_cons_zero, List.set_cons_succ]
                refine take_at (i := 1) (v := ?_) 126 rfl rfl (by kernel_rfl) (by kernel_rfl) (by kernel_rfl) (fun _ _ _ h => h) (Or.inl ⟨by rfl, ?_⟩) hHeld ?_
                rotate_left
                · intro w hSw
                  have q0 := (HY.out.below hSw).box.cell 0
                  have q1 := (HY.out.below hSw).box.cell 1
                  simp only [List.getElem?_toArray, List.getElem?_cons_zero, List.getElem?_cons_succ] at q0 q1
                  go_simp <;> with_reducible rfl
                try simp only [Act.put, List.setIfInBounds_toArray, List.set_cons_zero, List.set_cons_succ]
                refine wpAnyH_ready (rs := [2]) (by kernel_rfl) (by simp) ?_
                refine AllReadyH.cons rfl (fun K' hK => ?_) AllReadyH.nil
                go_simp
                refine (legal_any ra ga (some ⟨g, 0, none⟩) n c m d m yc false V' R G (S.set i (-1, 0)) _ (by omega) (by omega) (by omega) (HP.out.below hHeld).runs (HP.out.below hHeld).groups (HY.out.below hHeld).spots).mono ?_
                rintro e u101 ⟨q, rfl, hb, hq⟩
                obtain rfl : q = true := hq.mpr HYL.out
                clear hq
                go_simp
                refine hK.out _ _ (hHeld.trans (hb.mono hHeld.size)) (fun hHeld2 => ?_)
                clear hK K' hb hHeld
                have hHeld := hHeld2
                clear hHeld2
                refine take_at (i := 3) (v := ?_) 128 rfl rfl (by kernel_rfl) (by kernel_rfl) (by kernel_rfl) (fun _ _ _ h => h) (Or.inl ⟨by rfl, ?_⟩) hHeld ?_
                rotate_left
                · intro w hSw; go_simp <;> with_reducible rfl
                try simp only [Act.put, List.setIfInBounds_toArray, List.set_cons_zero, List.set_cons_succ]
                refine take_at (i := 4) (v := ?_) 129 rfl rfl (by kernel_rfl) (by kernel_rfl) (by kernel_rfl) (fun _ _ _ h => h) (Or.inl ⟨by rfl, ?_⟩) hHeld ?_
                rotate_left
                · intro w hSw; go_simp <;> with_reducible rfl
                try simp only [Act.put, List.setIfInBounds_toArray, List.set_cons_zero, List.set_cons_succ]
                refine take_at (i := 5) (v := ?_) 130 rfl rfl (by kernel_rfl) (by kernel_rfl) (by kernel_rfl) (fun _ _ _ h => h) (Or.inl ⟨by rfl, ?_⟩) hHeld ?_
                rotate_left
                · intro w hSw
                  have q0 := (HLO.out.below hSw).box.cell 0
                  have q1 := (HLO.out.below hSw).box.cell 1
                  have q2 := (HLO.out.below hSw).box.cell 2
                  simp only [List.getElem?_toArray, List.getElem?_cons_zero, List.getElem?_cons_succ] at q0 q1 q2
                  go_simp <;> with_reducible rfl
                try simp only [Act.put, List.setIfInBounds_toArray, List.set_cons_zero, List.set_cons_succ]
                refine wpAnyH_ready (rs := [6]) (by kernel_rfl) (by simp) ?_
                refine AllReadyH.cons rfl (fun K' hK => ?_) AllReadyH.nil
                go_simp
                refine (valid_any la3 ga n lc3 m d false _ R' G _ (by omega) (by omega) (HLO.out.below hHeld).runs (HLO.out.below hHeld).groups HVL.out).mono ?_
                rintro e u102 ⟨rfl, hb⟩
                go_simp
                refine hK.out _ _ (hHeld.trans (hb.mono hHeld.size)) (fun hHeld2 => ?_)
                clear hK K' hb hHeld
                have hHeld := hHeld2
                clear hHeld2
                refine take_at (i := 7) (v := ?_) 132 rfl rfl (by kernel_rfl) (by kernel_rfl) (by kernel_rfl) (fun _ _ _ h => h) (Or.inl ⟨by rfl, ?_⟩) hHeld ?_
                rotate_left
                · intro w hSw; go_simp <;> with_reducible rfl
                try simp only [Act.put, List.setIfInBounds_toArray, List.set_cons_zero, List.set_cons_succ]
                cases vl
                · refine take_at (i := 8) (v := undef) 133 rfl rfl (by kernel_rfl) (by kernel_rfl) (by kernel_rfl) (fun _ _ _ h => h) (Or.inr ⟨by rfl, rfl⟩) hHeld ?_
                  try simp only [Act.put, List.setIfInBounds_toArray, List.set_cons_zero, List.set_cons_succ]
                  refine take_at (i := 9) (v := undef) 134 rfl rfl (by kernel_rfl) (by kernel_rfl) (by kernel_rfl) (fun _ _ _ h => h) (Or.inr ⟨by rfl, rfl⟩) hHeld ?_
                  try simp only [Act.put, List.setIfInBounds_toArray, List.set_cons_zero, List.set_cons_succ]
                  refine take_at (i := 10) (v := undef) 135 rfl rfl (by kernel_rfl) (by kernel_rfl) (by kernel_rfl) (fun _ _ _ h => h) (Or.inr ⟨by rfl, rfl⟩) hHeld ?_
                  try simp only [Act.put, List.setIfInBounds_toArray, List.set_cons_zero, List.set_cons_succ]
                  refine take_at (i := 11) (v := undef) 136 rfl rfl (by kernel_rfl) (by kernel_rfl) (by kernel_rfl) (fun _ _ _ h => h) (Or.inr ⟨by rfl, rfl⟩) hHeld ?_
                  try simp only [Act.put, List.setIfInBounds_toArray, List.set_cons_zero, List.set_cons_succ]
                  refine take_at (i := 12) (v := undef) 137 rfl rfl (by kernel_rfl) (by kernel_rfl) (by kernel_rfl) (fun _ _ _ h => h) (Or.inr ⟨by rfl, rfl⟩) hHeld ?_
                  try simp only [Act.put, List.setIfInBounds_toArray, List.set_cons_zero, List.set_cons_succ]
                  refine take_at (i := 13) (v := undef) 138 rfl rfl (by kernel_rfl) (by kernel_rfl) (by kernel_rfl) (fun _ _ _ h => h) (Or.inr ⟨by rfl, rfl⟩) hHeld ?_
                  try simp only [Act.put, List.setIfInBounds_toArray, List.set_cons_zero, List.set_cons_succ]
                  refine take_at (i := 14) (v := undef) 139 rfl rfl (by kernel_rfl) (by kernel_rfl) (by kernel_rfl) (fun _ _ _ h => h) (Or.inr ⟨by rfl, rfl⟩) hHeld ?_
                  try simp only [Act.put, List.setIfInBounds_toArray, List.set_cons_zero, List.set_cons_succ]
                  refine take_at (i := 15) (v := undef) 140 rfl rfl (by kernel_rfl) (by kernel_rfl) (by kernel_rfl) (fun _ _ _ h => h) (Or.inr ⟨by rfl, rfl⟩) hHeld ?_
                  try simp only [Act.put, List.setIfInBounds_toArray, List.set_cons_zero, List.set_cons_succ]
                  refine take_at (i := 16) (v := undef) 141 rfl rfl (by kernel_rfl) (by kernel_rfl) (by kernel_rfl) (fun _ _ _ h => h) (Or.inr ⟨by rfl, rfl⟩) hHeld ?_
                  try simp only [Act.put, List.setIfInBounds_toArray, List.set_cons_zero, List.set_cons_succ]
                  refine take_at (i := 17) (v := undef) 142 rfl rfl (by kernel_rfl) (by kernel_rfl) (by kernel_rfl) (fun _ _ _ h => h) (Or.inr ⟨by rfl, rfl⟩) hHeld ?_
                  try simp only [Act.put, List.setIfInBounds_toArray, List.set_cons_zero, List.set_cons_succ]
                  refine take_at (i := 18) (v := undef) 143 rfl rfl (by kernel_rfl) (by kernel_rfl) (by kernel_rfl) (fun _ _ _ h => h) (Or.inr ⟨by rfl, rfl⟩) hHeld ?_
                  try simp only [Act.put, List.setIfInBounds_toArray, List.set_cons_zero, List.set_cons_succ]
                  refine take_at (i := 19) (v := ?_) 144 rfl rfl (by kernel_rfl) (by kernel_rfl) (by kernel_rfl) (fun _ _ _ h => h) (Or.inl ⟨by rfl, ?_⟩) hHeld ?_
                  rotate_left
                  · intro w hSw; go_simp <;> with_reducible rfl
                  try simp only [Act.put, List.setIfInBounds_toArray, List.set_cons_zero, List.set_cons_succ]
                  refine take_at (i := 20) (v := ?_) 145 rfl rfl (by kernel_rfl) (by kernel_rfl) (by kernel_rfl) (fun _ _ _ h => h) (Or.inl ⟨by rfl, ?_⟩) hHeld ?_
                  rotate_left
                  · intro w hSw; go_simp <;> with_reducible rfl
                  try simp only [Act.put, List.setIfInBounds_toArray, List.set_cons_zero, List.set_cons_succ]
                  refine wpAnyH_done (by kernel_rfl) ?_ _
                  go_upto_region 18 with fail
                  have HPn := Lib.hid (HP.out.below hHeld)
                  have HXn := Lib.hid (HX.out.below hHeld)
                  have HMn := Lib.hid (HM.out.below hHeld)
                  have HBn := Lib.hid (HBX.out.trans (hHeld.mono HBX.out.size))
                  clear hHeld
                  refine wp_region_held_drew (S := fun w' => Below u102.heap.size u102 w') (by kernel_rfl) ((Below.refl _ _).drew) (fun hHeld => ?_)
                  refine take_at (i := 0) (v := ?_) 146 rfl rfl (by kernel_rfl) (by kernel_rfl) (by kernel_rfl) (fun _ _ _ h => h) (Or.inl ⟨by rfl, ?_⟩) hHeld ?_
                  rotate_left
                  · intro w hSw; go_simp <;> with_reducible rfl
                  try simp only [Act.put, List.setIfInBounds_toArray, List.set_cons_zero, List.set_cons_succ]
                  refine take_at (i := 1) (v := ?_) 147 rfl rfl (by kernel_rfl) (by kernel_rfl) (by kernel_rfl) (fun _ _ _ h => h) (Or.inl ⟨by rfl, ?_⟩) hHeld ?_
                  rotate_left
                  · intro w hSw; go_simp <;> with_reducible rfl
                  try simp only [Act.put, List.setIfInBounds_toArray, List.set_cons_zero, List.set_cons_succ]
                  refine take_at (i := 2) (v := ?_) 148 rfl rfl (by kernel_rfl) (by kernel_rfl) (by kernel_rfl) (fun _ _ _ h => h) (Or.inl ⟨by rfl, ?_⟩) hHeld ?_
                  rotate_left
                  · intro w hSw
                    have q0 := (HMn.out.below hSw).box.cell 0
                    have q1 := (HMn.out.below hSw).box.cell 1
                    have q2 := (HMn.out.below hSw).box.cell 2
                    simp only [List.getElem?_toArray, List.getElem?_cons_zero, List.getElem?_cons_succ] at q0 q1 q2
                    go_simp <;> with_reducible rfl
                  try simp only [Act.put, List.setIfInBounds_toArray, List.set_cons_zero, List.set_cons_succ]
                  refine wpAnyH_ready (rs := [3]) (by kernel_rfl) (by simp) ?_
                  refine AllReadyH.cons rfl (fun K' hK => ?_) AllReadyH.nil
                  go_simp
                  refine (valid_any la2 ga (n + 1) lc2 m d false _ (R ++ [1 + z]) G _ (by omega) (by omega) (HMn.out.below hHeld).runs (HMn.out.below hHeld).groups HVM.out).mono ?_
                  rintro e u106 ⟨rfl, hb⟩
                  go_simp
                  refine hK.out _ _ (hHeld.trans (hb.mono hHeld.size)) (fun hHeld2 => ?_)
                  clear hK K' hb hHeld
                  have hHeld := hHeld2
                  clear hHeld2
                  refine take_at (i := 4) (v := ?_) 150 rfl rfl (by kernel_rfl) (by kernel_rfl) (by kernel_rfl) (fun _ _ _ h => h) (Or.inl ⟨by rfl, ?_⟩) hHeld ?_
                  rotate_left
                  · intro w hSw; go_simp <;> with_reducible rfl
                  try simp only [Act.put, List.setIfInBounds_toArray, List.set_cons_zero, List.set_cons_succ]
                  refine take_at (i := 5) (v := ?_) 151 rfl rfl (by kernel_rfl) (by kernel_rfl) (by kernel_rfl) (fun _ _ _ h => h) (Or.inl ⟨by rfl, ?_⟩) hHeld ?_
                  rotate_left
                  · intro w hSw; go_simp <;> with_reducible rfl
                  try simp only [Act.put, List.setIfInBounds_toArray, List.set_cons_zero, List.set_cons_succ]
                  cases vm
                  · refine take_at (i := 6) (v := undef) 152 rfl rfl (by kernel_rfl) (by kernel_rfl) (by kernel_rfl) (fun _ _ _ h => h) (Or.inr ⟨by rfl, rfl⟩) hHeld ?_
                    try simp only [Act.put, List.setIfInBounds_toArray, List.set_cons_zero, List.set_cons_succ]
                    refine take_at (i := 7) (v := undef) 153 rfl rfl (by kernel_rfl) (by kernel_rfl) (by kernel_rfl) (fun _ _ _ h => h) (Or.inr ⟨by rfl, rfl⟩) hHeld ?_
                    try simp only [Act.put, List.setIfInBounds_toArray, List.set_cons_zero, List.set_cons_succ]
                    refine take_at (i := 8) (v := undef) 154 rfl rfl (by kernel_rfl) (by kernel_rfl) (by kernel_rfl) (fun _ _ _ h => h) (Or.inr ⟨by rfl, rfl⟩) hHeld ?_
                    try simp only [Act.put, List.setIfInBounds_toArray, List.set_cons_zero, List.set_cons_succ]
                    refine take_at (i := 9) (v := undef) 155 rfl rfl (by kernel_rfl) (by kernel_rfl) (by kernel_rfl) (fun _ _ _ h => h) (Or.inr ⟨by rfl, rfl⟩) hHeld ?_
                    try simp only [Act.put, List.setIfInBounds_toArray, List.set_cons_zero, List.set_cons_succ]
                    refine take_at (i := 10) (v := undef) 156 rfl rfl (by kernel_rfl) (by kernel_rfl) (by kernel_rfl) (fun _ _ _ h => h) (Or.inr ⟨by rfl, rfl⟩) hHeld ?_
                    try simp only [Act.put, List.setIfInBounds_toArray, List.set_cons_zero, List.set_cons_succ]
                    refine take_at (i := 11) (v := undef) 157 rfl rfl (by kernel_rfl) (by kernel_rfl) (by kernel_rfl) (fun _ _ _ h => h) (Or.inr ⟨by rfl, rfl⟩) hHeld ?_
                    try simp only [Act.put, List.setIfInBounds_toArray, List.set_cons_zero, List.set_cons_succ]
                    refine take_at (i := 12) (v := undef) 158 rfl rfl (by kernel_rfl) (by kernel_rfl) (by kernel_rfl) (fun _ _ _ h => h) (Or.inr ⟨by rfl, rfl⟩) hHeld ?_
                    try simp only [Act.put, List.setIfInBounds_toArray, List.set_cons_zero, List.set_cons_succ]
                    refine take_at (i := 13) (v := undef) 159 rfl rfl (by kernel_rfl) (by kernel_rfl) (by kernel_rfl) (fun _ _ _ h => h) (Or.inr ⟨by rfl, rfl⟩) hHeld ?_
                    try simp only [Act.put, List.setIfInBounds_toArray, List.set_cons_zero, List.set_cons_succ]
                    refine take_at (i := 14) (v := undef) 160 rfl rfl (by kernel_rfl) (by kernel_rfl) (by kernel_rfl) (fun _ _ _ h => h) (Or.inr ⟨by rfl, rfl⟩) hHeld ?_
                    try simp only [Act.put, List.setIfInBounds_toArray, List.set_cons_zero, List.set_cons_succ]
                    refine take_at (i := 15) (v := undef) 161 rfl rfl (by kernel_rfl) (by kernel_rfl) (by kernel_rfl) (fun _ _ _ h => h) (Or.inr ⟨by rfl, rfl⟩) hHeld ?_
                    try simp only [Act.put, List.setIfInBounds_toArray, List.set_cons_zero, List.set_cons_succ]
                    refine take_at (i := 16) (v := ?_) 162 rfl rfl (by kernel_rfl) (by kernel_rfl) (by kernel_rfl) (fun _ _ _ h => h) (Or.inl ⟨by rfl, ?_⟩) hHeld ?_
                    rotate_left
                    · intro w hSw; go_simp <;> with_reducible rfl
                    try simp only [Act.put, List.setIfInBounds_toArray, List.set_cons_zero, List.set_cons_succ]
                    refine take_at (i := 17) (v := ?_) 163 rfl rfl (by kernel_rfl) (by kernel_rfl) (by kernel_rfl) (fun _ _ _ h => h) (Or.inl ⟨by rfl, ?_⟩) hHeld ?_
                    rotate_left
                    · intro w hSw; go_simp <;> with_reducible rfl
                    try simp only [Act.put, List.setIfInBounds_toArray, List.set_cons_zero, List.set_cons_succ]
                    refine take_at (i := 18) (v := ?_) 8 rfl rfl (by kernel_rfl) (by kernel_rfl) (by kernel_rfl) (fun _ _ _ h => h) (Or.inl ⟨by rfl, ?_⟩) hHeld ?_
                    rotate_left
                    · intro w hSw; go_simp <;> with_reducible rfl
                    try simp only [Act.put, List.setIfInBounds_toArray, List.set_cons_zero, List.set_cons_succ]
                    refine wpAnyH_done (by kernel_rfl) ?_ _
                    go_wp2_with fail
                    go_ret
                    exact ⟨rfl, HBn.out.trans (hHeld.mono HBn.out.size)⟩
                  · obtain ⟨hml, hmb2⟩ := HML.out HVM.out
                    rw [HBB.out.1, HBB.out.2.2] at hmb2
                    have HML2 := Lib.hid hml
                    clear hml
                    have t9 : decide (b0 ≤ b2) = true := by simp; exact hmb2
                    refine take_at (i := 6) (v := ?_) 152 rfl rfl (by kernel_rfl) (by kernel_rfl) (by kernel_rfl) (fun _ _ _ h => h) (Or.inl ⟨by rfl, ?_⟩) hHeld ?_
                    rotate_left
                    · intro w hSw
                      have q0 := (HMn.out.below hSw).box.cell 0
                      have q1 := (HMn.out.below hSw).box.cell 1
                      have q2 := (HMn.out.below hSw).box.cell 2
                      simp only [List.getElem?_toArray, List.getElem?_cons_zero, List.getElem?_cons_succ] at q0 q1 q2
                      go_simp <;> with_reducible rfl
                    try simp only [Act.put, List.setIfInBounds_toArray, List.set_cons_zero, List.set_cons_succ]
                    refine take_at (i := 7) (v := ?_) 153 rfl rfl (by kernel_rfl) (by kernel_rfl) (by kernel_rfl) (fun _ _ _ h => h) (Or.inl ⟨by rfl, ?_⟩) hHeld ?_
                    rotate_left
                    · intro w hSw
                      have q0 := (HXn.out.below hSw).box.cell 0
                      have q1 := (HXn.out.below hSw).box.cell 1
                      simp only [List.getElem?_toArray, List.getElem?_cons_zero, List.getElem?_cons_succ] at q0 q1
                      go_simp <;> with_reducible rfl
                    try simp only [Act.put, List.setIfInBounds_toArray, List.set_cons_zero, List.set_cons_succ]
                    refine wpAnyH_ready (rs := [8]) (by kernel_rfl) (by simp) ?_
                    refine AllReadyH.cons rfl (fun K' hK => ?_) AllReadyH.nil
                    go_simp
                    refine (legal_any la2 ga sa (n + 1) lc2 m d m sc false V0 (R ++ [1 + z]) G S _ (by omega) (by omega) (by omega) (HMn.out.below hHeld).runs (HMn.out.below hHeld).groups (HXn.out.below hHeld).spots).mono ?_
                    rintro e u107 ⟨q, rfl, hb, hq⟩
                    obtain rfl : q = true := hq.mpr HML2.out
                    clear hq
                    go_simp
                    refine hK.out _ _ (hHeld.trans (hb.mono hHeld.size)) (fun hHeld2 => ?_)
                    clear hK K' hb hHeld
                    have hHeld := hHeld2
                    clear hHeld2
                    refine take_at (i := 9) (v := ?_) 155 rfl rfl (by kernel_rfl) (by kernel_rfl) (by kernel_rfl) (fun _ _ _ h => h) (Or.inl ⟨by rfl, ?_⟩) hHeld ?_
                    rotate_left
                    · intro w hSw; go_simp <;> with_reducible rfl
                    try simp only [Act.put, List.setIfInBounds_toArray, List.set_cons_zero, List.set_cons_succ]
                    refine take_at (i := 10) (v := ?_) 156 rfl rfl (by kernel_rfl) (by kernel_rfl) (by kernel_rfl) (fun _ _ _ h => h) (Or.inl ⟨by rfl, ?_⟩) hHeld ?_
                    rotate_left
                    · intro w hSw
                      have q0 := (HMn.out.below hSw).box.cell 0
                      have q1 := (HMn.out.below hSw).box.cell 1
                      have q2 := (HMn.out.below hSw).box.cell 2
                      simp only [List.getElem?_toArray, List.getElem?_cons_zero, List.getElem?_cons_succ] at q0 q1 q2
                      go_simp <;> with_reducible rfl
                    try simp only [Act.put, List.setIfInBounds_toArray, List.set_cons_zero, List.set_cons_succ]
                    refine take_at (i := 12) (v := ?_) 158 rfl rfl (by kernel_rfl) (by kernel_rfl) (by kernel_rfl) (fun _ _ _ h => h) (Or.inl ⟨by rfl, ?_⟩) hHeld ?_
                    rotate_left
                    · intro w hSw
                      have q0 := (HPn.out.below hSw).box.cell 0
                      have q1 := (HPn.out.below hSw).box.cell 1
                      have q2 := (HPn.out.below hSw).box.cell 2
                      simp only [List.getElem?_toArray, List.getElem?_cons_zero, List.getElem?_cons_succ] at q0 q1 q2
                      go_simp <;> with_reducible rfl
                    try simp only [Act.put, List.setIfInBounds_toArray, List.set_cons_zero, List.set_cons_succ]
                    refine wpAnyH_ready (rs := [11]) (by kernel_rfl) (by simp) ?_
                    refine AllReadyH.cons rfl (fun K' hK => ?_) AllReadyH.nil
                    go_simp
                    refine (bound_any la2 ga (n + 1) lc2 m d false (R ++ [1 + z]) G _ (by omega) (by omega) (HMn.out.below hHeld).runs (HMn.out.below hHeld).groups).mono ?_
                    rintro e u108 ⟨rfl, hb⟩
                    rw [HBB.out.2.2]
                    go_simp
                    refine hK.out _ _ (hHeld.trans (hb.mono hHeld.size)) (fun hHeld2 => ?_)
                    clear hK K' hb hHeld
                    have hHeld := hHeld2
                    clear hHeld2
                    refine wpAnyH_ready (rs := [13]) (by kernel_rfl) (by simp) ?_
                    refine AllReadyH.cons rfl (fun K' hK => ?_) AllReadyH.nil
                    go_simp
                    refine (bound_any ra ga n c m d false R G _ (by omega) (by omega) (HPn.out.below hHeld).runs (HPn.out.below hHeld).groups).mono ?_
                    rintro e u109 ⟨rfl, hb⟩
                    rw [HBB.out.1]
                    go_simp
                    refine hK.out _ _ (hHeld.trans (hb.mono hHeld.size)) (fun hHeld2 => ?_)
                    clear hK K' hb hHeld
                    have hHeld := hHeld2
                    clear hHeld2
                    refine take_at (i := 14) (v := ?_) 160 rfl rfl (by kernel_rfl) (by kernel_rfl) (by kernel_rfl) (fun _ _ _ h => h) (Or.inl ⟨by rfl, ?_⟩) hHeld ?_
                    rotate_left
                    · intro w hSw; go_simp <;> with_reducible rfl
                    try simp only [Act.put, List.setIfInBounds_toArray, List.set_cons_zero, List.set_cons_succ]
                    refine take_at (i := 15) (v := ?_) 161 rfl rfl (by kernel_rfl) (by kernel_rfl) (by kernel_rfl) (fun _ _ _ h => h) (Or.inl ⟨by rfl, ?_⟩) hHeld ?_
                    rotate_left
                    · intro w hSw; go_simp <;> with_reducible rfl
                    try simp only [Act.put, List.setIfInBounds_toArray, List.set_cons_zero, List.set_cons_succ]
                    refine take_at (i := 16) (v := ?_) 162 rfl rfl (by kernel_rfl) (by kernel_rfl) (by kernel_rfl) (fun _ _ _ h => h) (Or.inl ⟨by rfl, ?_⟩) hHeld ?_
                    rotate_left
                    · intro w hSw; go_simp <;> with_reducible rfl
                    try simp only [Act.put, List.setIfInBounds_toArray, List.set_cons_zero, List.set_cons_succ]
                    refine take_at (i := 17) (v := ?_) 163 rfl rfl (by kernel_rfl) (by kernel_rfl) (by kernel_rfl) (fun _ _ _ h => h) (Or.inl ⟨by rfl, ?_⟩) hHeld ?_
                    rotate_left
                    · intro w hSw; go_simp <;> with_reducible rfl
                    try simp only [Act.put, List.setIfInBounds_toArray, List.set_cons_zero, List.set_cons_succ]
                    refine take_at (i := 18) (v := ?_) 8 rfl rfl (by kernel_rfl) (by kernel_rfl) (by kernel_rfl) (fun _ _ _ h => h) (Or.inl ⟨by rfl, ?_⟩) hHeld ?_
                    rotate_left
                    · intro w hSw; go_simp <;> with_reducible rfl
                    try simp only [Act.put, List.setIfInBounds_toArray, List.set_cons_zero, List.set_cons_succ]
                    refine wpAnyH_done (by kernel_rfl) ?_ _
                    go_wp2_with fail
                    go_ret
                    exact ⟨rfl, HBn.out.trans (hHeld.mono HBn.out.size)⟩
                · obtain ⟨hll, hlb2⟩ := HLL.out HVL.out
                  rw [HBB.out.1, HBB.out.2.1] at hlb2
                  have HLL2 := Lib.hid hll
                  clear hll
                  have t8 : decide (b1 < b0) = false := by simp; exact hlb2
                  refine take_at (i := 8) (v := ?_) 133 rfl rfl (by kernel_rfl) (by kernel_rfl) (by kernel_rfl) (fun _ _ _ h => h) (Or.inl ⟨by rfl, ?_⟩) hHeld ?_
                  rotate_left
                  · intro w hSw
                    have q0 := (HLO.out.below hSw).box.cell 0
                    have q1 := (HLO.out.below hSw).box.cell 1
                    have q2 := (HLO.out.below hSw).box.cell 2
                    simp only [List.getElem?_toArray, List.getElem?_cons_zero, List.getElem?_cons_succ] at q0 q1 q2
                    go_simp <;> with_reducible rfl
                  try simp only [Act.put, List.setIfInBounds_toArray, List.set_cons_zero, List.set_cons_succ]
                  refine take_at (i := 9) (v := ?_) 134 rfl rfl (by kernel_rfl) (by kernel_rfl) (by kernel_rfl) (fun _ _ _ h => h) (Or.inl ⟨by rfl, ?_⟩) hHeld ?_
                  rotate_left
                  · intro w hSw
                    have q0 := (HX.out.below hSw).box.cell 0
                    have q1 := (HX.out.below hSw).box.cell 1
                    simp only [List.getElem?_toArray, List.getElem?_cons_zero, List.getElem?_cons_succ] at q0 q1
                    go_simp <;> with_reducible rfl
                  try simp only [Act.put, List.setIfInBounds_toArray, List.set_cons_zero, List.set_cons_succ]
                  refine wpAnyH_ready (rs := [10]) (by kernel_rfl) (by simp) ?_
                  refine AllReadyH.cons rfl (fun K' hK => ?_) AllReadyH.nil
                  go_simp
                  refine (legal_any la3 ga sa n lc3 m d m sc false V0 R' G S _ (by omega) (by omega) (by omega) (HLO.out.below hHeld).runs (HLO.out.below hHeld).groups (HX.out.below hHeld).spots).mono ?_
                  rintro e u103 ⟨q, rfl, hb, hq⟩
                  obtain rfl : q = true := hq.mpr HLL2.out
                  clear hq
                  go_simp
                  refine hK.out _ _ (hHeld.trans (hb.mono hHeld.size)) (fun hHeld2 => ?_)
                  clear hK K' hb hHeld
                  have hHeld := hHeld2
                  clear hHeld2
                  refine take_at (i := 11) (v := ?_) 136 rfl rfl (by kernel_rfl) (by kernel_rfl) (by kernel_rfl) (fun _ _ _ h => h) (Or.inl ⟨by rfl, ?_⟩) hHeld ?_
                  rotate_left
                  · intro w hSw; go_simp <;> with_reducible rfl
                  try simp only [Act.put, List.setIfInBounds_toArray, List.set_cons_zero, List.set_cons_succ]
                  refine take_at (i := 12) (v := ?_) 137 rfl rfl (by kernel_rfl) (by kernel_rfl) (by kernel_rfl) (fun _ _ _ h => h) (Or.inl ⟨by rfl, ?_⟩) hHeld ?_
                  rotate_left
                  · intro w hSw; go_simp <;> with_reducible rfl
                  try simp only [Act.put, List.setIfInBounds_toArray, List.set_cons_zero, List.set_cons_succ]
                  refine take_at (i := 13) (v := ?_) 138 rfl rfl (by kernel_rfl) (by kernel_rfl) (by kernel_rfl) (fun _ _ _ h => h) (Or.inl ⟨by rfl, ?_⟩) hHeld ?_
                  rotate_left
                  · intro w hSw
                    have q0 := (HLO.out.below hSw).box.cell 0
                    have q1 := (HLO.out.below hSw).box.cell 1
                    have q2 := (HLO.out.below hSw).box.cell 2
                    simp only [List.getElem?_toArray, List.getElem?_cons_zero, List.getElem?_cons_succ] at q0 q1 q2
                    go_simp <;> with_reducible rfl
                  try simp only [Act.put, List.setIfInBounds_toArray, List.set_cons_zero, List.set_cons_succ]
                  refine take_at (i := 15) (v := ?_) 140 rfl rfl (by kernel_rfl) (by kernel_rfl) (by kernel_rfl) (fun _ _ _ h => h) (Or.inl ⟨by rfl, ?_⟩) hHeld ?_
                  rotate_left
                  · intro w hSw
                    have q0 := (HP.out.below hSw).box.cell 0
                    have q1 := (HP.out.below hSw).box.cell 1
                    have q2 := (HP.out.below hSw).box.cell 2
                    simp only [List.getElem?_toArray, List.getElem?_cons_zero, List.getElem?_cons_succ] at q0 q1 q2
                    go_simp <;> with_reducible rfl
                  try simp only [Act.put, List.setIfInBounds_toArray, List.set_cons_zero, List.set_cons_succ]
                  refine wpAnyH_ready (rs := [14]) (by kernel_rfl) (by simp) ?_
                  refine AllReadyH.cons rfl (fun K' hK => ?_) AllReadyH.nil
                  go_simp
                  refine (bound_any la3 ga n lc3 m d false R' G _ (by omega) (by omega) (HLO.out.below hHeld).runs (HLO.out.below hHeld).groups).mono ?_
                  rintro e u104 ⟨rfl, hb⟩
                  rw [HBB.out.2.1]
                  go_simp
                  refine hK.out _ _ (hHeld.trans (hb.mono hHeld.size)) (fun hHeld2 => ?_)
                  clear hK K' hb hHeld
                  have hHeld := hHeld2
                  clear hHeld2
                  refine wpAnyH_ready (rs := [16]) (by kernel_rfl) (by simp) ?_
                  refine AllReadyH.cons rfl (fun K' hK => ?_) AllReadyH.nil
                  go_simp
                  refine (bound_any ra ga n c m d false R G _ (by omega) (by omega) (HP.out.below hHeld).runs (HP.out.below hHeld).groups).mono ?_
                  rintro e u105 ⟨rfl, hb⟩
                  rw [HBB.out.1]
                  go_simp
                  refine hK.out _ _ (hHeld.trans (hb.mono hHeld.size)) (fun hHeld2 => ?_)
                  clear hK K' hb hHeld
                  have hHeld := hHeld2
                  clear hHeld2
                  refine take_at (i := 17) (v := ?_) 142 rfl rfl (by kernel_rfl) (by kernel_rfl) (by kernel_rfl) (fun _ _ _ h => h) (Or.inl ⟨by rfl, ?_⟩) hHeld ?_
                  rotate_left
                  · intro w hSw; go_simp <;> with_reducible rfl
                  try simp only [Act.put, List.setIfInBounds_toArray, List.set_cons_zero, List.set_cons_succ]
                  refine take_at (i := 18) (v := ?_) 143 rfl rfl (by kernel_rfl) (by kernel_rfl) (by kernel_rfl) (fun _ _ _ h => h) (Or.inl ⟨by rfl, ?_⟩) hHeld ?_
                  rotate_left
                  · intro w hSw; go_simp <;> with_reducible rfl
                  try simp only [Act.put, List.setIfInBounds_toArray, List.set_cons_zero, List.set_cons_succ]
                  refine take_at (i := 19) (v := ?_) 144 rfl rfl (by kernel_rfl) (by kernel_rfl) (by kernel_rfl) (fun _ _ _ h => h) (Or.inl ⟨by rfl, ?_⟩) hHeld ?_
                  rotate_left
                  · intro w hSw; go_simp <;> with_reducible rfl
                  try simp only [Act.put, List.setIfInBounds_toArray, List.set_cons_zero, List.set_cons_succ]
                  refine take_at (i := 20) (v := ?_) 145 rfl rfl (by kernel_rfl) (by kernel_rfl) (by kernel_rfl) (fun _ _ _ h => h) (Or.inl ⟨by rfl, ?_⟩) hHeld ?_
                  rotate_left
                  · intro w hSw; go_simp <;> with_reducible rfl
                  try simp only [Act.put, List.setIfInBounds_toArray, List.set_cons_zero, List.set_cons_succ]
                  refine wpAnyH_done (by kernel_rfl) ?_ _
                  go_upto_region 18 with fail
                  have HPn := Lib.hid (HP.out.below hHeld)
                  have HXn := Lib.hid (HX.out.below hHeld)
                  have HMn := Lib.hid (HM.out.below hHeld)
                  have HBn := Lib.hid (HBX.out.trans (hHeld.mono HBX.out.size))
                  clear hHeld
                  refine wp_region_held_drew (S := fun w' => Below u105.heap.size u105 w') (by kernel_rfl) ((Below.refl _ _).drew) (fun hHeld => ?_)
                  refine take_at (i := 0) (v := ?_) 146 rfl rfl (by kernel_rfl) (by kernel_rfl) (by kernel_rfl) (fun _ _ _ h => h) (Or.inl ⟨by rfl, ?_⟩) hHeld ?_
                  rotate_left
                  · intro w hSw; go_simp <;> with_reducible rfl
                  try simp only [Act.put, List.setIfInBounds_toArray, List.set_cons_zero, List.set_cons_succ]
                  refine take_at (i := 1) (v := ?_) 147 rfl rfl (by kernel_rfl) (by kernel_rfl) (by kernel_rfl) (fun _ _ _ h => h) (Or.inl ⟨by rfl, ?_⟩) hHeld ?_
                  rotate_left
                  · intro w hSw; go_simp <;> with_reducible rfl
                  try simp only [Act.put, List.setIfInBounds_toArray, List.set_cons_zero, List.set_cons_succ]
                  refine take_at (i := 2) (v := ?_) 148 rfl rfl (by kernel_rfl) (by kernel_rfl) (by kernel_rfl) (fun _ _ _ h => h) (Or.inl ⟨by rfl, ?_⟩) hHeld ?_
                  rotate_left
                  · intro w hSw
                    have q0 := (HMn.out.below hSw).box.cell 0
                    have q1 := (HMn.out.below hSw).box.cell 1
                    have q2 := (HMn.out.below hSw).box.cell 2
                    simp only [List.getElem?_toArray, List.getElem?_cons_zero, List.getElem?_cons_succ] at q0 q1 q2
                    go_simp <;> with_reducible rfl
                  try simp only [Act.put, List.setIfInBounds_toArray, List.set_cons_zero, List.set_cons_succ]
                  refine wpAnyH_ready (rs := [3]) (by kernel_rfl) (by simp) ?_
                  refine AllReadyH.cons rfl (fun K' hK => ?_) AllReadyH.nil
                  go_simp
                  refine (valid_any la2 ga (n + 1) lc2 m d false _ (R ++ [1 + z]) G _ (by omega) (by omega) (HMn.out.below hHeld).runs (HMn.out.below hHeld).groups HVM.out).mono ?_
                  rintro e u110 ⟨rfl, hb⟩
                  go_simp
                  refine hK.out _ _ (hHeld.trans (hb.mono hHeld.size)) (fun hHeld2 => ?_)
                  clear hK K' hb hHeld
                  have hHeld := hHeld2
                  clear hHeld2
                  refine take_at (i := 4) (v := ?_) 150 rfl rfl (by kernel_rfl) (by kernel_rfl) (by kernel_rfl) (fun _ _ _ h => h) (Or.inl ⟨by rfl, ?_⟩) hHeld ?_
                  rotate_left
                  · intro w hSw; go_simp <;> with_reducible rfl
                  try simp only [Act.put, List.setIfInBounds_toArray, List.set_cons_zero, List.set_cons_succ]
                  refine take_at (i := 5) (v := ?_) 151 rfl rfl (by kernel_rfl) (by kernel_rfl) (by kernel_rfl) (fun _ _ _ h => h) (Or.inl ⟨by rfl, ?_⟩) hHeld ?_
                  rotate_left
                  · intro w hSw; go_simp <;> with_reducible rfl
                  try simp only [Act.put, List.setIfInBounds_toArray, List.set_cons_zero, List.set_cons_succ]
                  cases vm
                  · refine take_at (i := 6) (v := undef) 152 rfl rfl (by kernel_rfl) (by kernel_rfl) (by kernel_rfl) (fun _ _ _ h => h) (Or.inr ⟨by rfl, rfl⟩) hHeld ?_
                    try simp only [Act.put, List.setIfInBounds_toArray, List.set_cons_zero, List.set_cons_succ]
                    refine take_at (i := 7) (v := undef) 153 rfl rfl (by kernel_rfl) (by kernel_rfl) (by kernel_rfl) (fun _ _ _ h => h) (Or.inr ⟨by rfl, rfl⟩) hHeld ?_
                    try simp only [Act.put, List.setIfInBounds_toArray, List.set_cons_zero, List.set_cons_succ]
                    refine take_at (i := 8) (v := undef) 154 rfl rfl (by kernel_rfl) (by kernel_rfl) (by kernel_rfl) (fun _ _ _ h => h) (Or.inr ⟨by rfl, rfl⟩) hHeld ?_
                    try simp only [Act.put, List.setIfInBounds_toArray, List.set_cons_zero, List.set_cons_succ]
                    refine take_at (i := 9) (v := undef) 155 rfl rfl (by kernel_rfl) (by kernel_rfl) (by kernel_rfl) (fun _ _ _ h => h) (Or.inr ⟨by rfl, rfl⟩) hHeld ?_
                    try simp only [Act.put, List.setIfInBounds_toArray, List.set_cons_zero, List.set_cons_succ]
                    refine take_at (i := 10) (v := undef) 156 rfl rfl (by kernel_rfl) (by kernel_rfl) (by kernel_rfl) (fun _ _ _ h => h) (Or.inr ⟨by rfl, rfl⟩) hHeld ?_
                    try simp only [Act.put, List.setIfInBounds_toArray, List.set_cons_zero, List.set_cons_succ]
                    refine take_at (i := 11) (v := undef) 157 rfl rfl (by kernel_rfl) (by kernel_rfl) (by kernel_rfl) (fun _ _ _ h => h) (Or.inr ⟨by rfl, rfl⟩) hHeld ?_
                    try simp only [Act.put, List.setIfInBounds_toArray, List.set_cons_zero, List.set_cons_succ]
                    refine take_at (i := 12) (v := undef) 158 rfl rfl (by kernel_rfl) (by kernel_rfl) (by kernel_rfl) (fun _ _ _ h => h) (Or.inr ⟨by rfl, rfl⟩) hHeld ?_
                    try simp only [Act.put, List.setIfInBounds_toArray, List.set_cons_zero, List.set_cons_succ]
                    refine take_at (i := 13) (v := undef) 159 rfl rfl (by kernel_rfl) (by kernel_rfl) (by kernel_rfl) (fun _ _ _ h => h) (Or.inr ⟨by rfl, rfl⟩) hHeld ?_
                    try simp only [Act.put, List.setIfInBounds_toArray, List.set_cons_zero, List.set_cons_succ]
                    refine take_at (i := 14) (v := undef) 160 rfl rfl (by kernel_rfl) (by kernel_rfl) (by kernel_rfl) (fun _ _ _ h => h) (Or.inr ⟨by rfl, rfl⟩) hHeld ?_
                    try simp only [Act.put, List.setIfInBounds_toArray, List.set_cons_zero, List.set_cons_succ]
                    refine take_at (i := 15) (v := undef) 161 rfl rfl (by kernel_rfl) (by kernel_rfl) (by kernel_rfl) (fun _ _ _ h => h) (Or.inr ⟨by rfl, rfl⟩) hHeld ?_
                    try simp only [Act.put, List.setIfInBounds_toArray, List.set_cons_zero, List.set_cons_succ]
                    refine take_at (i := 16) (v := ?_) 162 rfl rfl (by kernel_rfl) (by kernel_rfl) (by kernel_rfl) (fun _ _ _ h => h) (Or.inl ⟨by rfl, ?_⟩) hHeld ?_
                    rotate_left
                    · intro w hSw; go_simp <;> with_reducible rfl
                    try simp only [Act.put, List.setIfInBounds_toArray, List.set_cons_zero, List.set_cons_succ]
                    refine take_at (i := 17) (v := ?_) 163 rfl rfl (by kernel_rfl) (by kernel_rfl) (by kernel_rfl) (fun _ _ _ h => h) (Or.inl ⟨by rfl, ?_⟩) hHeld ?_
                    rotate_left
                    · intro w hSw; go_simp <;> with_reducible rfl
                    try simp only [Act.put, List.setIfInBounds_toArray, List.set_cons_zero, List.set_cons_succ]
                    refine take_at (i := 18) (v := ?_) 8 rfl rfl (by kernel_rfl) (by kernel_rfl) (by kernel_rfl) (fun _ _ _ h => h) (Or.inl ⟨by rfl, ?_⟩) hHeld ?_
                    rotate_left
                    · intro w hSw; go_simp <;> with_reducible rfl
                    try simp only [Act.put, List.setIfInBounds_toArray, List.set_cons_zero, List.set_cons_succ]
                    refine wpAnyH_done (by kernel_rfl) ?_ _
                    go_wp2_with fail
                    go_ret
                    exact ⟨rfl, HBn.out.trans (hHeld.mono HBn.out.size)⟩
                  · obtain ⟨hml, hmb2⟩ := HML.out HVM.out
                    rw [HBB.out.1, HBB.out.2.2] at hmb2
                    have HML2 := Lib.hid hml
                    clear hml
                    have t9 : decide (b0 ≤ b2) = true := by simp; exact hmb2
                    refine take_at (i := 6) (v := ?_) 152 rfl rfl (by kernel_rfl) (by kernel_rfl) (by kernel_rfl) (fun _ _ _ h => h) (Or.inl ⟨by rfl, ?_⟩) hHeld ?_
                    rotate_left
                    · intro w hSw
                      have q0 := (HMn.out.below hSw).box.cell 0
                      have q1 := (HMn.out.below hSw).box.cell 1
                      have q2 := (HMn.out.below hSw).box.cell 2
                      simp only [List.getElem?_toArray, List.getElem?_cons_zero, List.getElem?_cons_succ] at q0 q1 q2
                      go_simp <;> with_reducible rfl
                    try simp only [Act.put, List.setIfInBounds_toArray, List.set_cons_zero, List.set_cons_succ]
                    refine take_at (i := 7) (v := ?_) 153 rfl rfl (by kernel_rfl) (by kernel_rfl) (by kernel_rfl) (fun _ _ _ h => h) (Or.inl ⟨by rfl, ?_⟩) hHeld ?_
                    rotate_left
                    · intro w hSw
                      have q0 := (HXn.out.below hSw).box.cell 0
                      have q1 := (HXn.out.below hSw).box.cell 1
                      simp only [List.getElem?_toArray, List.getElem?_cons_zero, List.getElem?_cons_succ] at q0 q1
                      go_simp <;> with_reducible rfl
                    try simp only [Act.put, List.setIfInBounds_toArray, List.set_cons_zero, List.set_cons_succ]
                    refine wpAnyH_ready (rs := [8]) (by kernel_rfl) (by simp) ?_
                    refine AllReadyH.cons rfl (fun K' hK => ?_) AllReadyH.nil
                    go_simp
                    refine (legal_any la2 ga sa (n + 1) lc2 m d m sc false V0 (R ++ [1 + z]) G S _ (by omega) (by omega) (by omega) (HMn.out.below hHeld).runs (HMn.out.below hHeld).groups (HXn.out.below hHeld).spots).mono ?_
                    rintro e u111 ⟨q, rfl, hb, hq⟩
                    obtain rfl : q = true := hq.mpr HML2.out
                    clear hq
                    go_simp
                    refine hK.out _ _ (hHeld.trans (hb.mono hHeld.size)) (fun hHeld2 => ?_)
                    clear hK K' hb hHeld
                    have hHeld := hHeld2
                    clear hHeld2
                    refine take_at (i := 9) (v := ?_) 155 rfl rfl (by kernel_rfl) (by kernel_rfl) (by kernel_rfl) (fun _ _ _ h => h) (Or.inl ⟨by rfl, ?_⟩) hHeld ?_
                    rotate_left
                    · intro w hSw; go_simp <;> with_reducible rfl
                    try simp only [Act.put, List.setIfInBounds_toArray, List.set_cons_zero, List.set_cons_succ]
                    refine take_at (i := 10) (v := ?_) 156 rfl rfl (by kernel_rfl) (by kernel_rfl) (by kernel_rfl) (fun _ _ _ h => h) (Or.inl ⟨by rfl, ?_⟩) hHeld ?_
                    rotate_left
                    · intro w hSw
                      have q0 := (HMn.out.below hSw).box.cell 0
                      have q1 := (HMn.out.below hSw).box.cell 1
                      have q2 := (HMn.out.below hSw).box.cell 2
                      simp only [List.getElem?_toArray, List.getElem?_cons_zero, List.getElem?_cons_succ] at q0 q1 q2
                      go_simp <;> with_reducible rfl
                    try simp only [Act.put, List.setIfInBounds_toArray, List.set_cons_zero, List.set_cons_succ]
                    refine take_at (i := 12) (v := ?_) 158 rfl rfl (by kernel_rfl) (by kernel_rfl) (by kernel_rfl) (fun _ _ _ h => h) (Or.inl ⟨by rfl, ?_⟩) hHeld ?_
                    rotate_left
                    · intro w hSw
                      have q0 := (HPn.out.below hSw).box.cell 0
                      have q1 := (HPn.out.below hSw).box.cell 1
                      have q2 := (HPn.out.below hSw).box.cell 2
                      simp only [List.getElem?_toArray, List.getElem?_cons_zero, List.getElem?_cons_succ] at q0 q1 q2
                      go_simp <;> with_reducible rfl
                    try simp only [Act.put, List.setIfInBounds_toArray, List.set_cons_zero, List.set_cons_succ]
                    refine wpAnyH_ready (rs := [11]) (by kernel_rfl) (by simp) ?_
                    refine AllReadyH.cons rfl (fun K' hK => ?_) AllReadyH.nil
                    go_simp
                    refine (bound_any la2 ga (n + 1) lc2 m d false (R ++ [1 + z]) G _ (by omega) (by omega) (HMn.out.below hHeld).runs (HMn.out.below hHeld).groups).mono ?_
                    rintro e u112 ⟨rfl, hb⟩
                    rw [HBB.out.2.2]
                    go_simp
                    refine hK.out _ _ (hHeld.trans (hb.mono hHeld.size)) (fun hHeld2 => ?_)
                    clear hK K' hb hHeld
                    have hHeld := hHeld2
                    clear hHeld2
                    refine wpAnyH_ready (rs := [13]) (by kernel_rfl) (by simp) ?_
                    refine AllReadyH.cons rfl (fun K' hK => ?_) AllReadyH.nil
                    go_simp
                    refine (bound_any ra ga n c m d false R G _ (by omega) (by omega) (HPn.out.below hHeld).runs (HPn.out.below hHeld).groups).mono ?_
                    rintro e u113 ⟨rfl, hb⟩
                    rw [HBB.out.1]
                    go_simp
                    refine hK.out _ _ (hHeld.trans (hb.mono hHeld.size)) (fun hHeld2 => ?_)
                    clear hK K' hb hHeld
                    have hHeld := hHeld2
                    clear hHeld2
                    refine take_at (i := 14) (v := ?_) 160 rfl rfl (by kernel_rfl) (by kernel_rfl) (by kernel_rfl) (fun _ _ _ h => h) (Or.inl ⟨by rfl, ?_⟩) hHeld ?_
                    rotate_left
                    · intro w hSw; go_simp <;> with_reducible rfl
                    try simp only [Act.put, List.setIfInBounds_toArray, List.set_cons_zero, List.set_cons_succ]
                    refine take_at (i := 15) (v := ?_) 161 rfl rfl (by kernel_rfl) (by kernel_rfl) (by kernel_rfl) (fun _ _ _ h => h) (Or.inl ⟨by rfl, ?_⟩) hHeld ?_
                    rotate_left
                    · intro w hSw; go_simp <;> with_reducible rfl
                    try simp only [Act.put, List.setIfInBounds_toArray, List.set_cons_zero, List.set_cons_succ]
                    refine take_at (i := 16) (v := ?_) 162 rfl rfl (by kernel_rfl) (by kernel_rfl) (by kernel_rfl) (fun _ _ _ h => h) (Or.inl ⟨by rfl, ?_⟩) hHeld ?_
                    rotate_left
                    · intro w hSw; go_simp <;> with_reducible rfl
                    try simp only [Act.put, List.setIfInBounds_toArray, List.set_cons_zero, List.set_cons_succ]
                    refine take_at (i := 17) (v := ?_) 163 rfl rfl (by kernel_rfl) (by kernel_rfl) (by kernel_rfl) (fun _ _ _ h => h) (Or.inl ⟨by rfl, ?_⟩) hHeld ?_
                    rotate_left
                    · intro w hSw; go_simp <;> with_reducible rfl
                    try simp only [Act.put, List.setIfInBounds_toArray, List.set_cons_zero, List.set_cons_succ]
                    refine take_at (i := 18) (v := ?_) 8 rfl rfl (by kernel_rfl) (by kernel_rfl) (by kernel_rfl) (fun _ _ _ h => h) (Or.inl ⟨by rfl, ?_⟩) hHeld ?_
                    rotate_left
                    · intro w hSw; go_simp <;> with_reducible rfl
                    try simp only [Act.put, List.setIfInBounds_toArray, List.set_cons_zero, List.set_cons_succ]
                    refine wpAnyH_done (by kernel_rfl) ?_ _
                    go_wp2_with fail
                    go_ret
                    exact ⟨rfl, HBn.out.trans (hHeld.mono HBn.out.size)⟩
  · rw [show decide (n ≤ 40 ∧ m ≤ 40) = false from decide_eq_false hfew]
    go_wp2_with fail
    go_ret
    exact ⟨rfl, HBW2.out⟩
end Go.Proofs.Ytaomlhhlefpdeaa

namespace Go.Proofs.Ytaomlhhlefpdeaa
open Go.RowKit Go.IntWalk

/-- What the three steps of 'w := work{..}' leave. -/
def FCk (B n m l c d pc : Nat) (ra ga pa : Option Addr) (single : Bool) (V0 : Int) (k : Nat) (u : Value) (w : World) : Prop :=
  match k with
  | 0 => ∃ hb, u = .slice (some ⟨hb, 0, none⟩) l l ∧ B ≤ hb ∧ BoolRow w hb 4 (List.replicate l false)
  | 1 => ∃ hb, u = .agg #[.slice ra n c, .slice ga m d, .bool single, .int .i64 V0, .slice pa l pc, .slice none 0 0, .slice (some ⟨hb, 0, none⟩) l l] ∧ B ≤ hb ∧ BoolRow w hb 4 (List.replicate l false)
  | _ => ∃ kb, u = .pointer (some ⟨kb, 0, none⟩) ∧ B ≤ kb ∧ Box w kb 82 #[.slice none 0 0, .slice none 0 0, .bool false, .int .i64 0, .slice none 0 0, .slice none 0 0, .slice none 0 0]

theorem FCk.below {B n m l c d pc : Nat} {ra ga pa : Option Addr} {single : Bool} {V0 : Int} (k : Nat) (u : Value) (w w' : World) (h : FCk B n m l c d pc ra ga pa single V0 k u w) (hb : Below w.heap.size w w') : FCk B n m l c d pc ra ga pa single V0 k u w' := by
  unfold FCk at *
  match k with
  | 0 => obtain ⟨g, e, hg, r⟩ := h; exact ⟨g, e, hg, r.of_heap (hb.block _ r.lt)⟩
  | 1 => obtain ⟨g, e, hg, r⟩ := h; exact ⟨g, e, hg, r.of_heap (hb.block _ r.lt)⟩
  | k + 2 => obtain ⟨b, e, hg, r⟩ := h; exact ⟨b, e, hg, r.below hb⟩

theorem bools_not_box {w : World} {g b : Nat} {T U : TypeId} {D : List Bool} {vs : Array Value} (h : BoolRow w g T D) (k : Box w b U vs) (ht : T ≠ U) : g ≠ b := by
  rintro rfl
  obtain ⟨arr, h1, _⟩ := h
  unfold Box at k
  rw [k] at h1
  simp at h1
  exact ht h1.2.symm

theorem BoolRow.growG {w w' : World} {g C n sz : Nat} {t e : TypeId} {D : List Bool} {u : Value} {xs : List Value} (h : BoolRow w g t D) (hu : w.ownsRow C e sz u n xs) (hg : w.grownBy w' u.ownBlock) (ht : t ≠ e) : BoolRow w' g t D := by
  refine h.of_heap (hg.block g h.lt (fun eq => ?_))
  obtain ⟨arr, h1, _⟩ := h
  rcases hu.2 with ⟨rfl, _⟩ | ⟨b', cap, cur, rfl, _, hgg, _⟩
  · simp [Value.ownBlock] at eq
  · simp [Value.ownBlock] at eq; subst eq; rw [hgg] at h1; simp at h1; exact ht h1.2.symm

theorem own_wrow {w : World} {B m lc : Nat} {la : Option Addr} {W : List Int} (h : w.ownsRow B 3 1 (.slice la m lc) m (W.map (Value.int .i64))) (hb kb : Nat) (D : List Bool) (hD : BoolRow w hb 4 D) (hk : B ≤ kb) (hne : hb ≠ kb) : ∃ wb, B ≤ wb ∧ wb ≠ hb ∧ WRow w la wb m W ∧ (0 < m → wb < w.heap.size) := by
  have ho := own_ints h
  by_cases h0 : 0 < m
  · obtain ⟨g, e, hg, r⟩ := ho.2 h0
    refine ⟨g, hg, ?_, ⟨ho.1, fun _ => ⟨e, r⟩⟩, fun _ => r.lt⟩
    rintro rfl
    obtain ⟨arr, h1, _⟩ := hD
    obtain ⟨arr2, h2, _⟩ := r
    rw [h1] at h2
    simp at h2
  · exact ⟨kb, hk, fun e => hne e.symm, ⟨ho.1, fun h => absurd h h0⟩, fun h => absurd h h0⟩

set_option maxRecDepth 20000 in
set_option maxHeartbeats 6400000 in
theorem refCheck_any (ra ga sa pa : Option Addr) (n c m d k sc l pc : Nat) (single : Bool) (V0 : Int) (R : List Int) (G S : List (Int × Int)) (T : List StepT) (w : World)
    (hn : n ≤ 4000) (hm : m ≤ 4000) (hk : k ≤ 4000) (hR : Ints w ra n R) (hG : Pairs w ga m G) (hS : Pairs w sa k S) (hT : Steps w pa l T) :
    Calls Try.prog 31 #[.agg #[.slice ra n c, .slice ga m d, .bool single], .agg #[.slice sa k sc, .int .i64 V0], .agg #[.slice pa l pc]] w (LegalPost (LegalR single R G S V0 ∧ 0 < l ∧ l ≤ 100000 ∧ checkW single R G V0 T = true) w) := by
  have hb0 : Below w.heap.size w (((w.alloc (.cells #[.slice ra n c, .slice ga m d, .bool single] 25)).alloc (.cells #[.slice sa k sc, .int .i64 V0] 30)).alloc (.cells #[.slice pa l pc] 46)) := (((Below.refl _ _).alloc (Nat.le_refl _) _).alloc (by simp) _).alloc (by simp; omega) _
  have HP0 : Hid (Box (((w.alloc (.cells #[.slice ra n c, .slice ga m d, .bool single] 25)).alloc (.cells #[.slice sa k sc, .int .i64 V0] 30)).alloc (.cells #[.slice pa l pc] 46)) w.heap.size 25 #[.slice ra n c, .slice ga m d, .bool single] ∧ Box (((w.alloc (.cells #[.slice ra n c, .slice ga m d, .bool single] 25)).alloc (.cells #[.slice sa k sc, .int .i64 V0] 30)).alloc (.cells #[.slice pa l pc] 46)) (w.heap.size + 1) 30 #[.slice sa k sc, .int .i64 V0] ∧ Box (((w.alloc (.cells #[.slice ra n c, .slice ga m d, .bool single] 25)).alloc (.cells #[.slice sa k sc, .int .i64 V0] 30)).alloc (.cells #[.slice pa l pc] 46)) (w.heap.size + 1 + 1) 46 #[.slice pa l pc]) := ⟨((Box.new rfl).alloc _).alloc _, (Box.new (by simp)).alloc _, Box.new (by simp)⟩
  have HARG : Hid (∀ x, Below w.heap.size w x → Ints x ra n R ∧ Pairs x ga m G ∧ Pairs x sa k S ∧ Steps x pa l T) := fun x hx => ⟨hR.below hx, hG.below hx, hS.below hx, hT.below hx⟩
  have HL : Hid (R.length = n ∧ G.length = m ∧ T.length = l) := ⟨hR.1, hG.1, hT.1⟩
  have HB0 := Lib.hid hb0
  clear hR hG hS hT hb0
  go_enter Try.func31, Try.ntmps31
  go_upto_region 1 with fail
  generalize (((w.alloc (.cells #[.slice ra n c, .slice ga m d, .bool single] 25)).alloc (.cells #[.slice sa k sc, .int .i64 V0] 30)).alloc (.cells #[.slice pa l pc] 46)) = w1 at *
  have p0 := HP0.out.1.cell 0
  have p1 := HP0.out.1.cell 1
  have p2 := HP0.out.1.cell 2
  have x0 := HP0.out.2.1.cell 0
  have x1 := HP0.out.2.1.cell 1
  simp only [List.getElem?_toArray, List.getElem?_cons_zero, List.getElem?_cons_succ] at p0 p1 p2 x0 x1
  go_wp2_with fail
  refine (refLegal_any ra ga sa n c m d k sc single V0 R G S w1 hn hm hk (HARG.out w1 HB0.out).1 (HARG.out w1 HB0.out).2.1 (HARG.out w1 HB0.out).2.2.1).mono ?_
  rintro e w2 ⟨q, rfl, hb, hq⟩
  have HQ := Lib.hid hq
  have HP2 : Hid (Box w2 w.heap.size 25 #[.slice ra n c, .slice ga m d, .bool single] ∧ Box w2 (w.heap.size + 1) 30 #[.slice sa k sc, .int .i64 V0] ∧ Box w2 (w.heap.size + 1 + 1) 46 #[.slice pa l pc]) := ⟨HP0.out.1.below hb, HP0.out.2.1.below hb, HP0.out.2.2.below hb⟩
  have HB2 := Lib.hid (HB0.out.trans (hb.mono HB0.out.size))
  clear hb hq p0 p1 p2 x0 x1 HP0 HB0
  have f0 := HP2.out.2.2.cell 0
  simp only [List.getElem?_toArray, List.getElem?_cons_zero] at f0
  cases q
  · have HN : Hid (¬ (LegalR single R G S V0 ∧ 0 < l ∧ l ≤ 100000 ∧ checkW single R G V0 T = true)) := fun h => by have := HQ.out.mpr h.1; simp at this
    go_wp2_with fail
    go_ret
    exact LegalPost.no HB2.out HN.out
  have HLG := Lib.hid (HQ.out.mp rfl)
  by_cases hl0 : l < 1
  · have e1 : decide ((l : Int) < 1) = true := by simp; omega
    have HN : Hid (¬ (LegalR single R G S V0 ∧ 0 < l ∧ l ≤ 100000 ∧ checkW single R G V0 T = true)) := fun h => by omega
    go_wp2_with fail
    go_ret
    exact LegalPost.no HB2.out HN.out
  have e1 : decide ((l : Int) < 1) = false := by simp; omega
  by_cases hl1 : 100000 < l
  · have e2 : decide ((100000 : Int) < (l : Int)) = true := by simp; omega
    have HN : Hid (¬ (LegalR single R G S V0 ∧ 0 < l ∧ l ≤ 100000 ∧ checkW single R G V0 T = true)) := fun h => by omega
    go_wp2_with fail
    go_ret
    exact LegalPost.no HB2.out HN.out
  have e2 : decide ((100000 : Int) < (l : Int)) = false := by simp; omega
  have hl3 : l ≤ 100000 := by omega
  have hl2 : 0 < l := by omega
  have hz2 : w.heap.size + 1 + 1 < w2.heap.size := lt_of_block HP2.out.2.2
  obtain ⟨arr, hs, hz, hmk⟩ := make_seen l hl3
  have HMK := Lib.hid hmk
  have HROW0 : Hid (∀ W : World, BoolRow (W.alloc (.cells arr 4)) W.heap.size 4 (List.replicate l false)) := fun W => BoolRow.made rfl hs hz
  clear hs hz hmk hl0 hl1
  go_upto_region 3 with fail
  clear e1 e2 f0
  refine wp_region_held_drew (S := fun w' => Below w2.heap.size w2 w') (by kernel_rfl) ((Below.refl _ _).drew) (fun hHeld => ?_)
  refine take_at (i := 0) (v := ?_) 25 rfl rfl (by kernel_rfl) (by kernel_rfl) (by kernel_rfl) (fun _ _ _ h => h) (Or.inl ⟨by rfl, ?_⟩) hHeld ?_
  rotate_left
  · intro w hSw
    have q0 := (HP2.out.1.below hSw).cell 0
    have q1 := (HP2.out.1.below hSw).cell 1
    have q2 := (HP2.out.1.below hSw).cell 2
    simp only [List.getElem?_toArray, List.getElem?_cons_zero, List.getElem?_cons_succ] at q0 q1 q2
    go_simp <;> with_reducible rfl
  try simp only [Act.put, List.setIfInBounds_toArray, List.set_cons_zero, List.set_cons_succ]
  refine take_at (i := 1) (v := ?_) 26 rfl rfl (by kernel_rfl) (by kernel_rfl) (by kernel_rfl) (fun _ _ _ h => h) (Or.inl ⟨by rfl, ?_⟩) hHeld ?_
  rotate_left
  · intro w hSw; go_simp <;> with_reducible rfl
  try simp only [Act.put, List.setIfInBounds_toArray, List.set_cons_zero, List.set_cons_succ]
  refine take_at (i := 2) (v := ?_) 27 rfl rfl (by kernel_rfl) (by kernel_rfl) (by kernel_rfl) (fun _ _ _ h => h) (Or.inl ⟨by rfl, ?_⟩) hHeld ?_
  rotate_left
  · intro w hSw
    have q0 := (HP2.out.2.1.below hSw).cell 1
    simp only [List.getElem?_toArray, List.getElem?_cons_zero, List.getElem?_cons_succ] at q0
    go_simp <;> with_reducible rfl
  try simp only [Act.put, List.setIfInBounds_toArray, List.set_cons_zero, List.set_cons_succ]
  refine take_at (i := 3) (v := ?_) 28 rfl rfl (by kernel_rfl) (by kernel_rfl) (by kernel_rfl) (fun _ _ _ h => h) (Or.inl ⟨by rfl, ?_⟩) hHeld ?_
  rotate_left
  · intro w hSw; go_simp <;> with_reducible rfl
  try simp only [Act.put, List.setIfInBounds_toArray, List.set_cons_zero, List.set_cons_succ]
  refine take_at (i := 4) (v := ?_) 29 rfl rfl (by kernel_rfl) (by kernel_rfl) (by kernel_rfl) (fun _ _ _ h => h) (Or.inl ⟨by rfl, ?_⟩) hHeld ?_
  rotate_left
  · intro w hSw
    have q0 := (HP2.out.2.2.below hSw).cell 0
    simp only [List.getElem?_toArray, List.getElem?_cons_zero] at q0
    go_simp <;> with_reducible rfl
  try simp only [Act.put, List.setIfInBounds_toArray, List.set_cons_zero, List.set_cons_succ]
  refine take_at (i := 5) (v := ?_) 30 rfl rfl (by kernel_rfl) (by kernel_rfl) (by kernel_rfl) (fun _ _ _ h => h) (Or.inl ⟨by rfl, ?_⟩) hHeld ?_
  rotate_left
  · intro w hSw; go_simp <;> with_reducible rfl
  try simp only [Act.put, List.setIfInBounds_toArray, List.set_cons_zero, List.set_cons_succ]
  refine take_at (i := 6) (v := ?_) 31 rfl rfl (by kernel_rfl) (by kernel_rfl) (by kernel_rfl) (fun _ _ _ h => h) (Or.inl ⟨by rfl, ?_⟩) hHeld ?_
  rotate_left
  · intro w hSw
    have q0 := (HP2.out.2.2.below hSw).cell 0
    simp only [List.getElem?_toArray, List.getElem?_cons_zero] at q0
    go_simp <;> with_reducible rfl
  try simp only [Act.put, List.setIfInBounds_toArray, List.set_cons_zero, List.set_cons_succ]
  refine take_at (i := 7) (v := ?_) 32 rfl rfl (by kernel_rfl) (by kernel_rfl) (by kernel_rfl) (fun _ _ _ h => h) (Or.inl ⟨by rfl, ?_⟩) hHeld ?_
  rotate_left
  · intro w hSw; go_simp <;> with_reducible rfl
  try simp only [Act.put, List.setIfInBounds_toArray, List.set_cons_zero, List.set_cons_succ]
  refine wpAnyH_effects0 [(8, 33), (9, 34), (10, 7)] [[], [0], []] (FCk w2.heap.size n m l c d pc ra ga pa single V0) (fun _ _ => none) _ _ 1 _ ?dist ?ready FCk.below hHeld ?step ?fin
  case dist => decide
  case ready => kernel_rfl
  case step =>
    intro k e v x3 hk3 he hSw hbw3 hneed
    rcases k with _ | _ | _ | k
    all_goals simp only [List.getElem?_cons_zero, List.getElem?_cons_succ, List.getElem?_nil, Option.some.injEq, reduceCtorEq] at he
    all_goals subst he
    · have hmk := HMK.out
      refine wpOp_step rfl (fun K' hK => ?_)
      simp only [putAll, Act.put, List.setIfInBounds_toArray, List.set_cons_zero, List.set_cons_succ]
      go_simp
      have hb4 : Below x3.heap.size x3 (x3.alloc (.cells arr 4)) := al _ _
      exact hK _ _ ⟨.slice (some ⟨x3.heap.size, 0, none⟩) l l, by simp only [putAll, Act.put, List.setIfInBounds_toArray, List.set_cons_zero, List.set_cons_succ], hSw.trans (hb4.mono hSw.size), hb4, ⟨_, rfl, hSw.size, HROW0.out x3⟩, fun b hb => by simp at hb⟩
    · obtain ⟨hb, hv0, hg, hrow⟩ : FCk w2.heap.size n m l c d pc ra ga pa single V0 0 (v 0) x3 := hneed 0 (by simp)
      refine wpOp_step rfl (fun K' hK => ?_)
      simp only [putAll, Act.put, List.setIfInBounds_toArray, List.set_cons_zero, List.set_cons_succ]
      simp only [hv0]
      go_simp
      exact hK _ _ ⟨.agg #[.slice ra n c, .slice ga m d, .bool single, .int .i64 V0, .slice pa l pc, .slice none 0 0, .slice (some ⟨hb, 0, none⟩) l l], by simp only [putAll, Act.put, List.setIfInBounds_toArray, List.set_cons_zero, List.set_cons_succ, hv0], hSw, Below.refl _ _, ⟨_, rfl, hg, hrow⟩, fun b hb => by simp at hb⟩
    · refine wpOp_step rfl (fun K' hK => ?_)
      simp only [putAll, Act.put, List.setIfInBounds_toArray, List.set_cons_zero, List.set_cons_succ]
      go_simp
      have hb4 : Below x3.heap.size x3 (x3.alloc (.cells #[.slice none 0 0, .slice none 0 0, .bool false, .int .i64 0, .slice none 0 0, .slice none 0 0, .slice none 0 0] 82)) := al _ _
      exact hK _ _ ⟨.pointer (some ⟨x3.heap.size, 0, none⟩), by simp only [putAll, Act.put, List.setIfInBounds_toArray, List.set_cons_zero, List.set_cons_succ], hSw.trans (hb4.mono hSw.size), hb4, ⟨_, rfl, hSw.size, Box.new rfl⟩, fun b hb => by simp at hb⟩
  case fin =>
    intro v x4 hS4 hI
    obtain ⟨hb, f1, hh2, F1⟩ : FCk w2.heap.size n m l c d pc ra ga pa single V0 1 (v 1) x4 := hI.fact 1 (by decide) rfl
    obtain ⟨kb, f2, hk2, F2⟩ : FCk w2.heap.size n m l c d pc ra ga pa single V0 2 (v 2) x4 := hI.fact 2 (by decide) rfl
    have hhk : hb ≠ kb := bools_not_box F1 F2 (by decide)
    simp only [putAll, Act.put, List.setIfInBounds_toArray, List.set_cons_zero, List.set_cons_succ, Nat.zero_add, Nat.reduceAdd, f1, f2]
    have HF1 := Lib.hid F1
    have HF2 := Lib.hid F2
    have hkz : kb < x4.heap.size := lt_of_block F2
    clear f1 f2 F1 F2 hI hHeld HMK HROW0
    have yf0 := HF2.out.free 0
    have yf1 := HF2.out.free 1
    have yf2 := HF2.out.free 2
    have yf3 := HF2.out.free 3
    have yf4 := HF2.out.free 4
    have yf5 := HF2.out.free 5
    have yf6 := HF2.out.free 6
    have y0 := HF2.out.cell 0
    have y1 := HF2.out.cell 1
    have y2 := HF2.out.cell 2
    have y3 := HF2.out.cell 3
    have y4 := HF2.out.cell 4
    have y5 := HF2.out.cell 5
    have y6 := HF2.out.cell 6
    simp only [List.getElem?_toArray, List.getElem?_cons_zero, List.getElem?_cons_succ] at y0 y1 y2 y3 y4 y5 y6
    refine wpAnyH_ready (rs := [11]) (by kernel_rfl) (by simp) ?_
    refine AllReadyH.cons rfl (fun K' hK => ?_) AllReadyH.nil
    go_simp
    have HK5 : Hid (Box (((((((x4.setCell ⟨kb, 0, none⟩ (.slice ra n c)).setCell ⟨kb, 1, none⟩ (.slice ga m d)).setCell ⟨kb, 2, none⟩ (.bool single)).setCell ⟨kb, 3, none⟩ (.int .i64 V0)).setCell ⟨kb, 4, none⟩ (.slice pa l pc)).setCell ⟨kb, 5, none⟩ (.slice none 0 0)).setCell ⟨kb, 6, none⟩ (.slice (some ⟨hb, 0, none⟩) l l)) kb 82 #[.slice ra n c, .slice ga m d, .bool single, .int .i64 V0, .slice pa l pc, .slice none 0 0, .slice (some ⟨hb, 0, none⟩) l l]) := ((((((HF2.out.set 0 _).set 1 _).set 2 _).set 3 _).set 4 _).set 5 _).set 6 _
    have HH5 : Hid (BoolRow (((((((x4.setCell ⟨kb, 0, none⟩ (.slice ra n c)).setCell ⟨kb, 1, none⟩ (.slice ga m d)).setCell ⟨kb, 2, none⟩ (.bool single)).setCell ⟨kb, 3, none⟩ (.int .i64 V0)).setCell ⟨kb, 4, none⟩ (.slice pa l pc)).setCell ⟨kb, 5, none⟩ (.slice none 0 0)).setCell ⟨kb, 6, none⟩ (.slice (some ⟨hb, 0, none⟩) l l)) hb 4 (List.replicate l false)) := HF1.out.of_heap (heap_set7 _ _ _ _ _ _ _ hb hhk)
    have HB5 : Hid (Below w2.heap.size w2 (((((((x4.setCell ⟨kb, 0, none⟩ (.slice ra n c)).setCell ⟨kb, 1, none⟩ (.slice ga m d)).setCell ⟨kb, 2, none⟩ (.bool single)).setCell ⟨kb, 3, none⟩ (.int .i64 V0)).setCell ⟨kb, 4, none⟩ (.slice pa l pc)).setCell ⟨kb, 5, none⟩ (.slice none 0 0)).setCell ⟨kb, 6, none⟩ (.slice (some ⟨hb, 0, none⟩) l l))) := (((((((hS4.setCell (by show w2.heap.size ≤ kb; exact hk2) _).setCell (by show w2.heap.size ≤ kb; exact hk2) _).setCell (by show w2.heap.size ≤ kb; exact hk2) _).setCell (by show w2.heap.size ≤ kb; exact hk2) _).setCell (by show w2.heap.size ≤ kb; exact hk2) _).setCell (by show w2.heap.size ≤ kb; exact hk2) _).setCell (by show w2.heap.size ≤ kb; exact hk2) _)
    have hsz5 : kb < (((((((x4.setCell ⟨kb, 0, none⟩ (.slice ra n c)).setCell ⟨kb, 1, none⟩ (.slice ga m d)).setCell ⟨kb, 2, none⟩ (.bool single)).setCell ⟨kb, 3, none⟩ (.int .i64 V0)).setCell ⟨kb, 4, none⟩ (.slice pa l pc)).setCell ⟨kb, 5, none⟩ (.slice none 0 0)).setCell ⟨kb, 6, none⟩ (.slice (some ⟨hb, 0, none⟩) l l)).heap.size := by simpa [World.setCell] using hkz
    refine hK.out _ _ HB5.out (fun hHeld => ?_)
    clear hK K' hHeld yf0 y0 yf1 y1 yf2 y2 yf3 y3 yf4 y4 yf5 y5 yf6 y6
    refine wpAnyH_done (by kernel_rfl) ?_ _
    generalize (((((((x4.setCell ⟨kb, 0, none⟩ (.slice ra n c)).setCell ⟨kb, 1, none⟩ (.slice ga m d)).setCell ⟨kb, 2, none⟩ (.bool single)).setCell ⟨kb, 3, none⟩ (.int .i64 V0)).setCell ⟨kb, 4, none⟩ (.slice pa l pc)).setCell ⟨kb, 5, none⟩ (.slice none 0 0)).setCell ⟨kb, 6, none⟩ (.slice (some ⟨hb, 0, none⟩) l l)) = w5 at *
    clear HF1 HF2 hS4 hkz
    go_wp2_with fail
    go_loopw [8] (fun v8 wr => ∃ (i : Nat) (wa : Option Addr) (wc : Nat), v8 = .int .i64 i ∧ i ≤ m ∧ Hid (Box wr kb 82 #[.slice ra n c, .slice ga m d, .bool single, .int .i64 V0, .slice pa l pc, .slice wa i wc, .slice (some ⟨hb, 0, none⟩) l l]) ∧
        Hid (wr.ownsRow w2.heap.size 3 1 (.slice wa i wc) i ((List.replicate i (-2)).map (Value.int .i64))) ∧ Hid (BoolRow wr hb 4 (List.replicate l false)) ∧ Hid (Below w2.heap.size w2 wr)) (fun v8 _ => m - (intOf v8).toNat)
    case atStart => exact ⟨0, none, 0, rfl, Nat.zero_le _, HK5, World.ownsRow_nil _ _ _ _, HH5, HB5⟩
    case round =>
      clear HK5 HH5 HB5
      obtain ⟨i, wa, wc, rfl, hi, HK, HO, HH, HB⟩ := hrel
      have p1 := (HP2.out.1.below HB.out).cell 1
      simp only [List.getElem?_toArray, List.getElem?_cons_zero, List.getElem?_cons_succ] at p1
      by_cases hlt : i < m
      · have hi1 : i ≤ 100000 := by omega
        obtain ⟨la', lc', w6, hcp, ho6, hg6⟩ := push_int2 HO.out HB.out.size hi1 (-2)
        have HCP := Lib.hid hcp
        have HB6 : Hid (Below w2.heap.size w2 w6) := Below.grow HB.out HB.out.size hg6 (fun q hq => (HO.out.lt q hq).1)
        have HK6 : Hid (Box w6 kb 82 #[.slice ra n c, .slice ga m d, .bool single, .int .i64 V0, .slice pa l pc, .slice wa i wc, .slice (some ⟨hb, 0, none⟩) l l]) := HK.out.growG HO.out hg6 (by decide)
        have HH6 : Hid (BoolRow w6 hb 4 (List.replicate l false)) := HH.out.growG HO.out hg6 (by decide)
        have HO6 : Hid (w6.ownsRow w2.heap.size 3 1 (.slice la' (i + 1) lc') (i + 1) ((List.replicate (i + 1) (-2)).map (Value.int .i64))) := by rw [List.replicate_succ']; exact ho6
        have HFIN : Hid (Box (w6.setCell ⟨kb, 5, none⟩ (.slice la' (i + 1) lc')) kb 82 #[.slice ra n c, .slice ga m d, .bool single, .int .i64 V0, .slice pa l pc, .slice la' (i + 1) lc', .slice (some ⟨hb, 0, none⟩) l l] ∧
            (w6.setCell ⟨kb, 5, none⟩ (.slice la' (i + 1) lc')).ownsRow w2.heap.size 3 1 (.slice la' (i + 1) lc') (i + 1) ((List.replicate (i + 1) (-2)).map (Value.int .i64)) ∧ BoolRow (w6.setCell ⟨kb, 5, none⟩ (.slice la' (i + 1) lc')) hb 4 (List.replicate l false) ∧ Below w2.heap.size w2 (w6.setCell ⟨kb, 5, none⟩ (.slice la' (i + 1) lc'))) :=
          ⟨HK6.out.set 5 _, own_setBox HO6.out HK6.out _ (by decide), HH6.out.of_heap (heap_set hb hhk), HB6.out.setCell (by show w2.heap.size ≤ kb; exact hk2) _⟩
        have y5 := HK.out.cell 5
        have z5 := HK6.out.cell 5
        have zf := HK6.out.free 5
        simp only [List.getElem?_toArray, List.getElem?_cons_zero, List.getElem?_cons_succ] at y5 z5
        clear hcp ho6 hg6 hi1
        go_wp2_with (at_builtin; refine wpList_run_append rfl (.tmp 43) (.tmp 44) 22 rfl 22 rfl HCP.out rfl rfl ?_)
        go_roundw
        case rel => exact ⟨i + 1, la', lc', by go_num, by omega, HFIN.out.1, HFIN.out.2.1, HFIN.out.2.2.1, HFIN.out.2.2.2⟩
        case measure => simp [intOf]; omega
      · obtain rfl : i = m := by omega
        have HV := validS_parts HLG.out.1
        have hsm := runsOk_sum R 4000 (by omega) HV.1
        have hrb : ∀ r, r < n → 0 ≤ ix R r ∧ ix R r ≤ 4000 := fun r hr => by have := hsm.2.2 r (by rw [HL.out.1]; exact hr); omega
        obtain ⟨wb, hwb, hwh, hwr, hwl⟩ := own_wrow HO.out hb kb _ HH.out hk2 hhk
        have HW2 : Below w.heap.size w w2 := HB2.out
        have HCALL := Lib.hid (right_any w2 ra ga pa wa n c i d l pc wc l wb hb single V0 R G T hn hm hl3 (HARG.out w2 HW2).1 (HARG.out w2 HW2).2.1 (HARG.out w2 HW2).2.2.2 HV.2.2 hrb hsm.2.1 hwb hh2 hwh l 0 (List.replicate i (-2)) (List.replicate l false) wr (by omega) hl2 (fun j hj => by simp [ix, List.getD, hj]; omega) (by simp) HB.out hwr HH.out hwl)
        have HCW : Hid ((rightW single R G V0 T l (List.replicate i (-2)) (List.replicate l false) 0).1 = checkW single R G V0 T) := by show _ = _; unfold checkW; rw [HL.out.2.1, HL.out.2.2]
        unfold workV at HCALL
        have y0 := HK.out.cell 0
        have y1 := HK.out.cell 1
        have y2 := HK.out.cell 2
        have y3 := HK.out.cell 3
        have y4 := HK.out.cell 4
        have y5 := HK.out.cell 5
        have y6 := HK.out.cell 6
        simp only [List.getElem?_toArray, List.getElem?_cons_zero, List.getElem?_cons_succ] at y0 y1 y2 y3 y4 y5 y6
        clear HV hsm hrb hwb hwh hwr hwl HW2
        go_upto_region 8 with fail
        go_wp2_with fail
        refine HCALL.out.mono ?_
        rintro e u ⟨rfl, hbu, _⟩
        rw [HCW.out]
        obtain ⟨q, hq⟩ : ∃ b, checkW single R G V0 T = b := ⟨_, rfl⟩
        have HQQ := Lib.hid hq
        rw [hq]
        have HBU := Lib.hid (HB2.out.trans (hbu.mono HB2.out.size))
        clear hq hbu y0 y1 y2 y3 y4 y5 y6 p1
        go_wp2_with fail
        go_ret
        exact ⟨q, rfl, HBU.out, by rw [HQQ.out]; exact ⟨fun h => ⟨HLG.out, hl2, hl3, h⟩, fun h => h.2.2.2⟩⟩
end Go.Proofs.Ytaomlhhlefpdeaa

namespace Go.Proofs.Ytaomlhhlefpdeaa
open Go.RowKit

theorem is_bool (P : Prop) : ∃ b : Bool, b = true ↔ P := by
  by_cases h : P
  · exact ⟨true, by simp [h]⟩
  · exact ⟨false, by simp [h]⟩

set_option maxRecDepth 20000 in
set_option maxHeartbeats 3200000 in
theorem fitMatches_any (ra ga sa pa : Option Addr) (n c m d k sc l pc : Nat) (single : Bool) (V0 : Int) (R : List Int) (G S : List (Int × Int)) (T : List StepT) (w : World)
    (hk : k ≤ 9223372036854775807) (hl : l ≤ 9223372036854775807) (hR : Ints w ra n R) (hG : Pairs w ga m G) (hS : Pairs w sa k S) (hT : Steps w pa l T) (hc : ra = none → c = 0) :
    Calls Try.prog 8 #[.agg #[.slice ra n c, .slice ga m d, .bool single], .agg #[.slice sa k sc, .int .i64 V0], .agg #[.slice pa l pc]] w fun e w' => e = .returned (.bool true) ∧ Below w.heap.size w w' := by
  have hb0 : Below w.heap.size w (((w.alloc (.cells #[.slice ra n c, .slice ga m d, .bool single] 25)).alloc (.cells #[.slice sa k sc, .int .i64 V0] 30)).alloc (.cells #[.slice pa l pc] 46)) := (((Below.refl _ _).alloc (Nat.le_refl _) _).alloc (by simp) _).alloc (by simp; omega) _
  have HP0 : Hid (ProbAt (((w.alloc (.cells #[.slice ra n c, .slice ga m d, .bool single] 25)).alloc (.cells #[.slice sa k sc, .int .i64 V0] 30)).alloc (.cells #[.slice pa l pc] 46)) w.heap.size n m ra ga c d single R G) := ⟨((Box.new rfl).alloc _).alloc _, hR.below hb0, hG.below hb0, hc⟩
  have HX0 : Hid (PackAt (((w.alloc (.cells #[.slice ra n c, .slice ga m d, .bool single] 25)).alloc (.cells #[.slice sa k sc, .int .i64 V0] 30)).alloc (.cells #[.slice pa l pc] 46)) (w.heap.size + 1) k sa sc S V0) := ⟨(Box.new (by simp)).alloc _, hS.below hb0⟩
  have HF0 : Hid (ProofAt (((w.alloc (.cells #[.slice ra n c, .slice ga m d, .bool single] 25)).alloc (.cells #[.slice sa k sc, .int .i64 V0] 30)).alloc (.cells #[.slice pa l pc] 46)) (w.heap.size + 1 + 1) l pa pc T) := ⟨Box.new (by simp), hT.below hb0⟩
  have HBW0 := Lib.hid hb0
  clear hR hG hS hT hc hb0
  go_enter Try.func8, Try.ntmps8
  go_upto_region 1 with fail
  generalize (((w.alloc (.cells #[.slice ra n c, .slice ga m d, .bool single] 25)).alloc (.cells #[.slice sa k sc, .int .i64 V0] 30)).alloc (.cells #[.slice pa l pc] 46)) = w0 at *
  go_wp2_with fail
  refine (head22_any _).mono ?_
  rintro e w1 ⟨rfl, hb⟩
  have HP1 := Lib.hid (HP0.out.below hb)
  have HX1 := Lib.hid (HX0.out.below hb)
  have HF1 := Lib.hid (HF0.out.below hb)
  have HBW1 := Lib.hid (HBW0.out.trans (hb.mono HBW0.out.size))
  clear hb HP0 HX0 HF0 HBW0
  have p0 := HP1.out.box.cell 0
  have p1 := HP1.out.box.cell 1
  have p2 := HP1.out.box.cell 2
  simp only [List.getElem?_toArray, List.getElem?_cons_zero, List.getElem?_cons_succ] at p0 p1 p2
  go_wp2_with fail
  refine (few_any ra ga n c m d single 40 w1).mono ?_
  rintro e w2 ⟨rfl, hb⟩
  have HP2 := Lib.hid (HP1.out.below hb)
  have HX2 := Lib.hid (HX1.out.below hb)
  have HF2 := Lib.hid (HF1.out.below hb)
  have HBW2 := Lib.hid (HBW1.out.trans (hb.mono HBW1.out.size))
  clear hb HP1 HX1 HF1 HBW1
  clear p0 p1 p2
  by_cases hfew : n ≤ 40 ∧ m ≤ 40
  · rw [show decide (n ≤ 40 ∧ m ≤ 40) = true from decide_eq_true hfew]
    obtain ⟨hn, hm⟩ := hfew
    have f0 := HF2.out.box.cell 0
    simp only [List.getElem?_toArray, List.getElem?_cons_zero] at f0
    go_wp2_with fail
    refine (short_any pa l pc 400 T w2 hl HF2.out.steps).mono ?_
    rintro e w3 ⟨⟨q, rfl⟩, hb⟩
    have HP3 := Lib.hid (HP2.out.below hb)
    have HX3 := Lib.hid (HX2.out.below hb)
    have HF3 := Lib.hid (HF2.out.below hb)
    have HBW3 := Lib.hid (HBW2.out.trans (hb.mono HBW2.out.size))
    clear hb HP2 HX2 HF2 HBW2
    clear f0
    cases q
    · go_wp2_with fail
      go_ret
      exact ⟨rfl, HBW3.out⟩
    · have x0 := HX3.out.box.cell 0
      simp only [List.getElem?_toArray, List.getElem?_cons_zero] at x0
      by_cases h60 : 60 < k
      · have e1 : decide ((60 : Int) < (k : Int)) = true := by simp; omega
        go_wp2_with fail
        go_ret
        exact ⟨rfl, HBW3.out⟩
      · have e1 : decide ((60 : Int) < (k : Int)) = false := by simp; omega
        have hn4 : n ≤ 4000 := by omega
        have hm4 : m ≤ 4000 := by omega
        have hk4 : k ≤ 4000 := by omega
        obtain ⟨vb, hvb⟩ : ∃ b, validS R G = b := ⟨_, rfl⟩
        obtain ⟨B, hB⟩ : ∃ B, boundS R G = B := ⟨_, rfl⟩
        obtain ⟨ql, hql⟩ := is_bool (LegalP single R G S V0)
        obtain ⟨qc, hqc⟩ := is_bool (LegalP single R G S V0 ∧ 0 < l ∧ l ≤ 100000 ∧ checkS single R G V0 T = true)
        have HVB := Lib.hid hvb; have HB := Lib.hid hB; have HQL := Lib.hid hql; have HQC := Lib.hid hqc
        clear hvb hB hql hqc
        go_upto_region 4 with fail
        clear e1 x0
        have t1 : (vb == vb) = true := by simp
        have t2 : (B == B) = true := by simp
        have t3 : (ql == ql) = true := by simp
        have t4 : (qc == qc) = true := by simp
        refine wp_region_held_drew (S := fun w' => Below w3.heap.size w3 w') (by kernel_rfl) ((Below.refl _ _).drew) (fun hHeld => ?_)
        refine take_at (i := 0) (v := ?_) 24 rfl rfl (by kernel_rfl) (by kernel_rfl) (by kernel_rfl) (fun _ _ _ h => h) (Or.inl ⟨by rfl, ?_⟩) hHeld ?_
        rotate_left
        · intro w hSw; go_simp <;> with_reducible rfl
        try simp only [Act.put, List.setIfInBounds_toArray, List.set_cons_zero, List.set_cons_succ]
        refine take_at (i := 1) (v := ?_) 25 rfl rfl (by kernel_rfl) (by kernel_rfl) (by kernel_rfl) (fun _ _ _ h => h) (Or.inl ⟨by rfl, ?_⟩) hHeld ?_
        rotate_left
        · intro w hSw; go_simp <;> with_reducible rfl
        try simp only [Act.put, List.setIfInBounds_toArray, List.set_cons_zero, List.set_cons_succ]
        refine take_at (i := 2) (v := ?_) 26 rfl rfl (by kernel_rfl) (by kernel_rfl) (by kernel_rfl) (fun _ _ _ h => h) (Or.inl ⟨by rfl, ?_⟩) hHeld ?_
        rotate_left
        · intro w hSw
          have q0 := (HP3.out.below hSw).box.cell 0
          have q1 := (HP3.out.below hSw).box.cell 1
          have q2 := (HP3.out.below hSw).box.cell 2
          simp only [List.getElem?_toArray, List.getElem?_cons_zero, List.getElem?_cons_succ] at q0 q1 q2
          go_simp <;> with_reducible rfl
        try simp only [Act.put, List.setIfInBounds_toArray, List.set_cons_zero, List.set_cons_succ]
        refine take_at (i := 4) (v := ?_) 28 rfl rfl (by kernel_rfl) (by kernel_rfl) (by kernel_rfl) (fun _ _ _ h => h) (Or.inl ⟨by rfl, ?_⟩) hHeld ?_
        rotate_left
        · intro w hSw
          have q0 := (HP3.out.below hSw).box.cell 0
          have q1 := (HP3.out.below hSw).box.cell 1
          have q2 := (HP3.out.below hSw).box.cell 2
          simp only [List.getElem?_toArray, List.getElem?_cons_zero, List.getElem?_cons_succ] at q0 q1 q2
          go_simp <;> with_reducible rfl
        try simp only [Act.put, List.setIfInBounds_toArray, List.set_cons_zero, List.set_cons_succ]
        refine wpAnyH_ready (rs := [3]) (by kernel_rfl) (by simp) ?_
        refine AllReadyH.cons rfl (fun K' hK => ?_) AllReadyH.nil
        go_simp
        refine (valid_any ra ga n c m d single vb R G _ hn4 hm4 (HP3.out.below hHeld).runs (HP3.out.below hHeld).groups HVB.out).mono ?_
        rintro e u301 ⟨rfl, hb⟩
        go_simp
        refine hK.out _ _ (hHeld.trans (hb.mono hHeld.size)) (fun hHeld2 => ?_)
        clear hK K' hb hHeld
        have hHeld := hHeld2
        clear hHeld2
        refine wpAnyH_ready (rs := [5]) (by kernel_rfl) (by simp) ?_
        refine AllReadyH.cons rfl (fun K' hK => ?_) AllReadyH.nil
        go_simp
        refine (refvalid_any ra ga n c m d single vb R G _ hn4 hm4 (HP3.out.below hHeld).runs (HP3.out.below hHeld).groups HVB.out).mono ?_
        rintro e u302 ⟨rfl, hb⟩
        go_simp
        refine hK.out _ _ (hHeld.trans (hb.mono hHeld.size)) (fun hHeld2 => ?_)
        clear hK K' hb hHeld
        have hHeld := hHeld2
        clear hHeld2
        refine take_at (i := 6) (v := ?_) 30 rfl rfl (by kernel_rfl) (by kernel_rfl) (by kernel_rfl) (fun _ _ _ h => h) (Or.inl ⟨by rfl, ?_⟩) hHeld ?_
        rotate_left
        · intro w hSw; go_simp <;> with_reducible rfl
        try simp only [Act.put, List.setIfInBounds_toArray, List.set_cons_zero, List.set_cons_succ]
        refine take_at (i := 7) (v := ?_) 31 rfl rfl (by kernel_rfl) (by kernel_rfl) (by kernel_rfl) (fun _ _ _ h => h) (Or.inl ⟨by rfl, ?_⟩) hHeld ?_
        rotate_left
        · intro w hSw; go_simp <;> with_reducible rfl
        try simp only [Act.put, List.setIfInBounds_toArray, List.set_cons_zero, List.set_cons_succ]
        refine take_at (i := 8) (v := ?_) 32 rfl rfl (by kernel_rfl) (by kernel_rfl) (by kernel_rfl) (fun _ _ _ h => h) (Or.inl ⟨by rfl, ?_⟩) hHeld ?_
        rotate_left
        · intro w hSw; go_simp <;> with_reducible rfl
        try simp only [Act.put, List.setIfInBounds_toArray, List.set_cons_zero, List.set_cons_succ]
        refine take_at (i := 9) (v := ?_) 33 rfl rfl (by kernel_rfl) (by kernel_rfl) (by kernel_rfl) (fun _ _ _ h => h) (Or.inl ⟨by rfl, ?_⟩) hHeld ?_
        rotate_left
        · intro w hSw
          have q0 := (HP3.out.below hSw).box.cell 0
          have q1 := (HP3.out.below hSw).box.cell 1
          have q2 := (HP3.out.below hSw).box.cell 2
          simp only [List.getElem?_toArray, List.getElem?_cons_zero, List.getElem?_cons_succ] at q0 q1 q2
          go_simp <;> with_reducible rfl
        try simp only [Act.put, List.setIfInBounds_toArray, List.set_cons_zero, List.set_cons_succ]
        refine take_at (i := 11) (v := ?_) 35 rfl rfl (by kernel_rfl) (by kernel_rfl) (by kernel_rfl) (fun _ _ _ h => h) (Or.inl ⟨by rfl, ?_⟩) hHeld ?_
        rotate_left
        · intro w hSw
          have q0 := (HP3.out.below hSw).box.cell 0
          have q1 := (HP3.out.below hSw).box.cell 1
          have q2 := (HP3.out.below hSw).box.cell 2
          simp only [List.getElem?_toArray, List.getElem?_cons_zero, List.getElem?_cons_succ] at q0 q1 q2
          go_simp <;> with_reducible rfl
        try simp only [Act.put, List.setIfInBounds_toArray, List.set_cons_zero, List.set_cons_succ]
        refine wpAnyH_ready (rs := [10]) (by kernel_rfl) (by simp) ?_
        refine AllReadyH.cons rfl (fun K' hK => ?_) AllReadyH.nil
        go_simp
        refine (bound_any ra ga n c m d single R G _ hn4 hm4 (HP3.out.below hHeld).runs (HP3.out.below hHeld).groups).mono ?_
        rintro e u303 ⟨rfl, hb⟩
        rw [HB.out]
        go_simp
        refine hK.out _ _ (hHeld.trans (hb.mono hHeld.size)) (fun hHeld2 => ?_)
        clear hK K' hb hHeld
        have hHeld := hHeld2
        clear hHeld2
        refine wpAnyH_ready (rs := [12]) (by kernel_rfl) (by simp) ?_
        refine AllReadyH.cons rfl (fun K' hK => ?_) AllReadyH.nil
        go_simp
        refine (refBound_any ra ga n c m d single R G _ hn4 hm4 (HP3.out.below hHeld).runs (HP3.out.below hHeld).groups).mono ?_
        rintro e u304 ⟨rfl, hb⟩
        rw [HB.out]
        go_simp
        refine hK.out _ _ (hHeld.trans (hb.mono hHeld.size)) (fun hHeld2 => ?_)
        clear hK K' hb hHeld
        have hHeld := hHeld2
        clear hHeld2
        refine take_at (i := 13) (v := ?_) 37 rfl rfl (by kernel_rfl) (by kernel_rfl) (by kernel_rfl) (fun _ _ _ h => h) (Or.inl ⟨by rfl, ?_⟩) hHeld ?_
        rotate_left
        · intro w hSw; go_simp <;> with_reducible rfl
        try simp only [Act.put, List.setIfInBounds_toArray, List.set_cons_zero, List.set_cons_succ]
        refine take_at (i := 14) (v := ?_) 38 rfl rfl (by kernel_rfl) (by kernel_rfl) (by kernel_rfl) (fun _ _ _ h => h) (Or.inl ⟨by rfl, ?_⟩) hHeld ?_
        rotate_left
        · intro w hSw; go_simp <;> with_reducible rfl
        try simp only [Act.put, List.setIfInBounds_toArray, List.set_cons_zero, List.set_cons_succ]
        refine take_at (i := 15) (v := ?_) 39 rfl rfl (by kernel_rfl) (by kernel_rfl) (by kernel_rfl) (fun _ _ _ h => h) (Or.inl ⟨by rfl, ?_⟩) hHeld ?_
        rotate_left
        · intro w hSw; go_simp <;> with_reducible rfl
        try simp only [Act.put, List.setIfInBounds_toArray, List.set_cons_zero, List.set_cons_succ]
        refine take_at (i := 16) (v := ?_) 40 rfl rfl (by kernel_rfl) (by kernel_rfl) (by kernel_rfl) (fun _ _ _ h => h) (Or.inl ⟨by rfl, ?_⟩) hHeld ?_
        rotate_left
        · intro w hSw
          have q0 := (HP3.out.below hSw).box.cell 0
          have q1 := (HP3.out.below hSw).box.cell 1
          have q2 := (HP3.out.below hSw).box.cell 2
          simp only [List.getElem?_toArray, List.getElem?_cons_zero, List.getElem?_cons_succ] at q0 q1 q2
          go_simp <;> with_reducible rfl
        try simp only [Act.put, List.setIfInBounds_toArray, List.set_cons_zero, List.set_cons_succ]
        refine take_at (i := 17) (v := ?_) 41 rfl rfl (by kernel_rfl) (by kernel_rfl) (by kernel_rfl) (fun _ _ _ h => h) (Or.inl ⟨by rfl, ?_⟩) hHeld ?_
        rotate_left
        · intro w hSw
          have q0 := (HX3.out.below hSw).box.cell 0
          have q1 := (HX3.out.below hSw).box.cell 1
          simp only [List.getElem?_toArray, List.getElem?_cons_zero, List.getElem?_cons_succ] at q0 q1
          go_simp <;> with_reducible rfl
        try simp only [Act.put, List.setIfInBounds_toArray, List.set_cons_zero, List.set_cons_succ]
        refine take_at (i := 19) (v := ?_) 43 rfl rfl (by kernel_rfl) (by kernel_rfl) (by kernel_rfl) (fun _ _ _ h => h) (Or.inl ⟨by rfl, ?_⟩) hHeld ?_
        rotate_left
        · intro w hSw
          have q0 := (HP3.out.below hSw).box.cell 0
          have q1 := (HP3.out.below hSw).box.cell 1
          have q2 := (HP3.out.below hSw).box.cell 2
          simp only [List.getElem?_toArray, List.getElem?_cons_zero, List.getElem?_cons_succ] at q0 q1 q2
          go_simp <;> with_reducible rfl
        try simp only [Act.put, List.setIfInBounds_toArray, List.set_cons_zero, List.set_cons_succ]
        refine take_at (i := 20) (v := ?_) 44 rfl rfl (by kernel_rfl) (by kernel_rfl) (by kernel_rfl) (fun _ _ _ h => h) (Or.inl ⟨by rfl, ?_⟩) hHeld ?_
        rotate_left
        · intro w hSw
          have q0 := (HX3.out.below hSw).box.cell 0
          have q1 := (HX3.out.below hSw).box.cell 1
          simp only [List.getElem?_toArray, List.getElem?_cons_zero, List.getElem?_cons_succ] at q0 q1
          go_simp <;> with_reducible rfl
        try simp only [Act.put, List.setIfInBounds_toArray, List.set_cons_zero, List.set_cons_succ]
        refine wpAnyH_ready (rs := [18]) (by kernel_rfl) (by simp) ?_
        refine AllReadyH.cons rfl (fun K' hK => ?_) AllReadyH.nil
        go_simp
        refine (legal_any ra ga sa n c m d k sc single V0 R G S _ hn4 hm4 hk4 (HP3.out.below hHeld).runs (HP3.out.below hHeld).groups (HX3.out.below hHeld).spots).mono ?_
        rintro e u305 ⟨q, rfl, hb, hq⟩
        obtain rfl : q = ql := Bool.eq_iff_iff.mpr (hq.trans HQL.out.symm)
        clear hq
        go_simp
        refine hK.out _ _ (hHeld.trans (hb.mono hHeld.size)) (fun hHeld2 => ?_)
        clear hK K' hb hHeld
        have hHeld := hHeld2
        clear hHeld2
        refine wpAnyH_ready (rs := [21]) (by kernel_rfl) (by simp) ?_
        refine AllReadyH.cons rfl (fun K' hK => ?_) AllReadyH.nil
        go_simp
        refine (refLegal_any ra ga sa n c m d k sc single V0 R G S _ hn4 hm4 hk4 (HP3.out.below hHeld).runs (HP3.out.below hHeld).groups (HX3.out.below hHeld).spots).mono ?_
        rintro e u306 ⟨q2, rfl, hb, hq⟩
        obtain rfl : q2 = q := Bool.eq_iff_iff.mpr (hq.trans ((legalR_iff single R G S V0).symm.trans HQL.out.symm))
        clear hq
        go_simp
        refine hK.out _ _ (hHeld.trans (hb.mono hHeld.size)) (fun hHeld2 => ?_)
        clear hK K' hb hHeld
        have hHeld := hHeld2
        clear hHeld2
        refine take_at (i := 22) (v := ?_) 46 rfl rfl (by kernel_rfl) (by kernel_rfl) (by kernel_rfl) (fun _ _ _ h => h) (Or.inl ⟨by rfl, ?_⟩) hHeld ?_
        rotate_left
        · intro w hSw; go_simp <;> with_reducible rfl
        try simp only [Act.put, List.setIfInBounds_toArray, List.set_cons_zero, List.set_cons_succ]
        refine take_at (i := 23) (v := ?_) 47 rfl rfl (by kernel_rfl) (by kernel_rfl) (by kernel_rfl) (fun _ _ _ h => h) (Or.inl ⟨by rfl, ?_⟩) hHeld ?_
        rotate_left
        · intro w hSw; go_simp <;> with_reducible rfl
        try simp only [Act.put, List.setIfInBounds_toArray, List.set_cons_zero, List.set_cons_succ]
        refine take_at (i := 24) (v := ?_) 48 rfl rfl (by kernel_rfl) (by kernel_rfl) (by kernel_rfl) (fun _ _ _ h => h) (Or.inl ⟨by rfl, ?_⟩) hHeld ?_
        rotate_left
        · intro w hSw; go_simp <;> with_reducible rfl
        try simp only [Act.put, List.setIfInBounds_toArray, List.set_cons_zero, List.set_cons_succ]
        refine take_at (i := 25) (v := ?_) 49 rfl rfl (by kernel_rfl) (by kernel_rfl) (by kernel_rfl) (fun _ _ _ h => h) (Or.inl ⟨by rfl, ?_⟩) hHeld ?_
        rotate_left
        · intro w hSw
          have q0 := (HP3.out.below hSw).box.cell 0
          have q1 := (HP3.out.below hSw).box.cell 1
          have q2 := (HP3.out.below hSw).box.cell 2
          simp only [List.getElem?_toArray, List.getElem?_cons_zero, List.getElem?_cons_succ] at q0 q1 q2
          go_simp <;> with_reducible rfl
        try simp only [Act.put, List.setIfInBounds_toArray, List.set_cons_zero, List.set_cons_succ]
        refine take_at (i := 26) (v := ?_) 50 rfl rfl (by kernel_rfl) (by kernel_rfl) (by kernel_rfl) (fun _ _ _ h => h) (Or.inl ⟨by rfl, ?_⟩) hHeld ?_
        rotate_left
        · intro w hSw
          have q0 := (HX3.out.below hSw).box.cell 0
          have q1 := (HX3.out.below hSw).box.cell 1
          simp only [List.getElem?_toArray, List.getElem?_cons_zero, List.getElem?_cons_succ] at q0 q1
          go_simp <;> with_reducible rfl
        try simp only [Act.put, List.setIfInBounds_toArray, List.set_cons_zero, List.set_cons_succ]
        refine take_at (i := 27) (v := ?_) 51 rfl rfl (by kernel_rfl) (by kernel_rfl) (by kernel_rfl) (fun _ _ _ h => h) (Or.inl ⟨by rfl, ?_⟩) hHeld ?_
        rotate_left
        · intro w hSw
          have q0 := (HF3.out.below hSw).box.cell 0
          simp only [List.getElem?_toArray, List.getElem?_cons_zero] at q0
          go_simp <;> with_reducible rfl
        try simp only [Act.put, List.setIfInBounds_toArray, List.set_cons_zero, List.set_cons_succ]
        refine take_at (i := 29) (v := ?_) 53 rfl rfl (by kernel_rfl) (by kernel_rfl) (by kernel_rfl) (fun _ _ _ h => h) (Or.inl ⟨by rfl, ?_⟩) hHeld ?_
        rotate_left
        · intro w hSw
          have q0 := (HP3.out.below hSw).box.cell 0
          have q1 := (HP3.out.below hSw).box.cell 1
          have q2 := (HP3.out.below hSw).box.cell 2
          simp only [List.getElem?_toArray, List.getElem?_cons_zero, List.getElem?_cons_succ] at q0 q1 q2
          go_simp <;> with_reducible rfl
        try simp only [Act.put, List.setIfInBounds_toArray, List.set_cons_zero, List.set_cons_succ]
        refine take_at (i := 30) (v := ?_) 54 rfl rfl (by kernel_rfl) (by kernel_rfl) (by kernel_rfl) (fun _ _ _ h => h) (Or.inl ⟨by rfl, ?_⟩) hHeld ?_
        rotate_left
        · intro w hSw
          have q0 := (HX3.out.below hSw).box.cell 0
          have q1 := (HX3.out.below hSw).box.cell 1
          simp only [List.getElem?_toArray, List.getElem?_cons_zero, List.getElem?_cons_succ] at q0 q1
          go_simp <;> with_reducible rfl
        try simp only [Act.put, List.setIfInBounds_toArray, List.set_cons_zero, List.set_cons_succ]
        refine take_at (i := 31) (v := ?_) 55 rfl rfl (by kernel_rfl) (by kernel_rfl) (by kernel_rfl) (fun _ _ _ h => h) (Or.inl ⟨by rfl, ?_⟩) hHeld ?_
        rotate_left
        · intro w hSw
          have q0 := (HF3.out.below hSw).box.cell 0
          simp only [List.getElem?_toArray, List.getElem?_cons_zero] at q0
          go_simp <;> with_reducible rfl
        try simp only [Act.put, List.setIfInBounds_toArray, List.set_cons_zero, List.set_cons_succ]
        refine wpAnyH_ready (rs := [28]) (by kernel_rfl) (by simp) ?_
        refine AllReadyH.cons rfl (fun K' hK => ?_) AllReadyH.nil
        go_simp
        refine (check_any ra ga sa pa n c m d k sc l pc single V0 R G S T _ hn4 hm4 hk4 (HP3.out.below hHeld).runs (HP3.out.below hHeld).groups (HX3.out.below hHeld).spots (HF3.out.below hHeld).steps (HP3.out.below hHeld).nil).mono ?_
        rintro e u307 ⟨q3, rfl, hb, hq⟩
        obtain rfl : q3 = qc := Bool.eq_iff_iff.mpr (hq.trans HQC.out.symm)
        clear hq
        go_simp
        refine hK.out _ _ (hHeld.trans (hb.mono hHeld.size)) (fun hHeld2 => ?_)
        clear hK K' hb hHeld
        have hHeld := hHeld2
        clear hHeld2
        refine wpAnyH_ready (rs := [32]) (by kernel_rfl) (by simp) ?_
        refine AllReadyH.cons rfl (fun K' hK => ?_) AllReadyH.nil
        go_simp
        refine (refCheck_any ra ga sa pa n c m d k sc l pc single V0 R G S T _ hn4 hm4 hk4 (HP3.out.below hHeld).runs (HP3.out.below hHeld).groups (HX3.out.below hHeld).spots (HF3.out.below hHeld).steps).mono ?_
        rintro e u308 ⟨q4, rfl, hb, hq⟩
        obtain rfl : q4 = q3 := Bool.eq_iff_iff.mpr (hq.trans (by rw [HQC.out, legalR_iff, check_same]))
        clear hq
        go_simp
        refine hK.out _ _ (hHeld.trans (hb.mono hHeld.size)) (fun hHeld2 => ?_)
        clear hK K' hb hHeld
        have hHeld := hHeld2
        clear hHeld2
        refine take_at (i := 33) (v := ?_) 57 rfl rfl (by kernel_rfl) (by kernel_rfl) (by kernel_rfl) (fun _ _ _ h => h) (Or.inl ⟨by rfl, ?_⟩) hHeld ?_
        rotate_left
        · intro w hSw; go_simp <;> with_reducible rfl
        try simp only [Act.put, List.setIfInBounds_toArray, List.set_cons_zero, List.set_cons_succ]
        refine take_at (i := 34) (v := ?_) 58 rfl rfl (by kernel_rfl) (by kernel_rfl) (by kernel_rfl) (fun _ _ _ h => h) (Or.inl ⟨by rfl, ?_⟩) hHeld ?_
        rotate_left
        · intro w hSw; go_simp <;> with_reducible rfl
        try simp only [Act.put, List.setIfInBounds_toArray, List.set_cons_zero, List.set_cons_succ]
        refine take_at (i := 35) (v := ?_) 6 rfl rfl (by kernel_rfl) (by kernel_rfl) (by kernel_rfl) (fun _ _ _ h => h) (Or.inl ⟨by rfl, ?_⟩) hHeld ?_
        rotate_left
        · intro w hSw; go_simp <;> with_reducible rfl
        try simp only [Act.put, List.setIfInBounds_toArray, List.set_cons_zero, List.set_cons_succ]
        refine wpAnyH_done (by kernel_rfl) ?_ _
        go_wp2_with fail
        go_ret
        exact ⟨rfl, HBW3.out.trans (hHeld.mono HBW3.out.size)⟩
  · rw [show decide (n ≤ 40 ∧ m ≤ 40) = false from decide_eq_false hfew]
    go_wp2_with fail
    go_ret
    exact ⟨rfl, HBW2.out⟩
end Go.Proofs.Ytaomlhhlefpdeaa

namespace Go.Proofs.Ytaomlhhlefpdeaa
open Go.ChangeShapes Go.WideShapes Go.ChangeAt Go.RowKit Go.Deep Go.Joins

section
variable {H : Type} {enc : TypeId × Value → H} {w : World} {base : Nat} {held : Bool}

set_option maxRecDepth 100000 in
theorem steps_read {fuel : Nat} {v : Value} {x : DataW H × List MemPlace} (h : DataW.trod enc Try.prog w base (fun _ => true) held fuel 44 [v] = some x) :
    ∃ (pa : Option Addr) (l pc : Nat) (T : List StepT), v = .slice pa l pc ∧ l ≤ 9223372036854775807 ∧ Steps w pa l T := by
  rcases open_slice Try.underlying44 h with ⟨hcs, _⟩ | ⟨a, len, cap, m, n, D, Pl, hcs, hb, hl, hm, hmm, hx0, hx⟩
  · simp at hcs
    subst hcs
    exact ⟨none, 0, 0, [], rfl, by omega, rfl, fun k hk => absurd hk (by omega)⟩
  · simp at hcs
    subst hcs
    obtain ⟨b, o, s⟩ := a
    have hm' : m = cap := by simpa using hmm
    subst hm'
    have ce : Try.prog.cellsOf 51 = 3 := by kernel_rfl
    have each : ∀ i : Fin len, ∃ t : StepT, ∃ ka kc, s = none ∧ w.cell? ⟨b, o + i * 3, none⟩ = some (.int .i64 t.kind) ∧ w.cell? ⟨b, o + i * 3 + 1, none⟩ = some (.int .i64 t.group) ∧
        w.cell? ⟨b, o + i * 3 + 2, none⟩ = some (.slice ka t.kids.length kc) ∧ Ints w ka t.kids.length t.kids := by
      intro i
      obtain ⟨cs', h1, h2⟩ := hx i (by omega)
      rw [ce] at h1
      obtain ⟨_, hlen, hcell⟩ := World.cells?_some h1
      obtain ⟨xs, k, hk, hxy, _, hxl, hf⟩ := DataW.trod_struct Try.underlying51 h2
      match xs, hxl, cs', hlen with
      | [y0, y1, y2], _, [v0, v1, v2], _ =>
        have g0 := hf 0 _ rfl
        have g1 := hf 1 _ rfl
        have g2 := hf 2 _ rfl
        have c0 : Try.prog.cellsOf 3 = 1 := by kernel_rfl
        have c2 : Try.prog.cellsOf 22 = 1 := by kernel_rfl
        simp [c0] at g0
        simp [c0] at g1
        simp [c2] at g2
        have e0 := hcell 0 (by omega)
        have e1 := hcell 1 (by omega)
        have e2 := hcell 2 (by omega)
        have hs : s = none := by
          have hi := i.isLt
          obtain ⟨cs0, h01, _⟩ := hx 0 (by omega)
          rw [ce] at h01
          obtain ⟨_, hl0, hc0⟩ := World.cells?_some h01
          match cs0, hl0 with
          | [u0, u1, u2], _ =>
            have z := hc0 0 (by omega)
            rw [add_add] at z
            exact whole_of (v := u0) (by simpa using z)
        subst hs
        rw [add_add, add_whole] at e0 e1 e2
        obtain ⟨n0, q0, _⟩ := DataW.trod_int Try.underlying3 g0
        obtain ⟨n1, q1, _⟩ := DataW.trod_int Try.underlying3 g1
        obtain ⟨ka, kl, kc, ks, q2, _, _, hI⟩ := ints_read g2
        simp at q0 q1
        subst q0 q1 q2
        have hkl : ks.length = kl := hI.1
        subst hkl
        exact ⟨⟨n0, n1, ks⟩, ka, kc, rfl, by simpa using e0, by simpa [Nat.add_assoc] using e1, by simpa [Nat.add_assoc] using e2, hI⟩
    obtain ⟨f, hf⟩ := Classical.axiomOfChoice each
    unfold maxLen at hm
    refine ⟨some ⟨b, o, s⟩, len, m, (List.range len).map fun i => if hi : i < len then f ⟨i, hi⟩ else default, rfl, by omega, by simp, fun i hi => ?_⟩
    obtain ⟨ka, kc, hs, c0, c1, c2, hI⟩ := hf ⟨i, hi⟩
    have e : stepAt ((List.range len).map fun i => if hi : i < len then f ⟨i, hi⟩ else default) i = f ⟨i, hi⟩ := by simp [stepAt, List.getD, hi]
    subst hs
    rw [e]
    exact ⟨b, o, ka, kc, rfl, c0, c1, c2, hI⟩

set_option maxRecDepth 100000 in
/-- The argument of type Proof: its one field. -/
theorem proof_read {r : Reach} {b0 : Nat} {v : Value} {d : DataW H} {p : List MemPlace} (hv : Value.okWide Try.prog w r b0 46 v)
    (h : DataW.Trod enc Try.prog w base (fun _ => true) held 46 v d p) :
    ∃ (pa : Option Addr) (l pc : Nat) (T : List StepT), v = .agg #[.slice pa l pc] ∧ l ≤ 9223372036854775807 ∧ Steps w pa l T := by
  obtain ⟨cs, rfl, hsz⟩ := okWide_struct Try.underlying46 hv
  have hC : Try.prog.cellsOf 46 = 1 := by kernel_rfl
  rw [hC] at hsz
  obtain ⟨c0, rfl⟩ : ∃ c, cs = #[c] := by
    obtain ⟨l⟩ := cs
    match l, hsz with
    | [c], _ => exact ⟨c, rfl⟩
  obtain ⟨fuel, hf⟩ := h
  obtain ⟨xs, k, hk, hxy, _, hxl, hfl⟩ := DataW.trod_struct Try.underlying46 hf
  match xs, hxl with
  | [y0], _ =>
    have g0 := hfl 0 _ rfl
    have c2 : Try.prog.cellsOf 44 = 1 := by kernel_rfl
    simp [Value.cells, c2] at g0
    obtain ⟨pa, l, pc, T, rfl, hl, hT⟩ := steps_read g0
    exact ⟨pa, l, pc, T, rfl, hl, hT⟩
end
end Go.Proofs.Ytaomlhhlefpdeaa
