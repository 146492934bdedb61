/- slices.DeleteFunc over means of the call's own, at less$2: the walk. -/
import Derived.Test.YtgpmhaeiccljaaaDoorR7
namespace Go.Proofs.YtgpmhaeiccljaaaDoor
open Go.RowKit Go.IntWalk

/-- What is not nothing. -/
def keepS (l : List MeanT) : List MeanT := l.filter fun m => !decide (m.2 = 0)

theorem keep_next {l : List MeanT} {j : Nat} (h : j < l.length) : keepS (l.take (j + 1)) = keepS (l.take j) ++ if am l j = 0 then [] else [l[j]] := by
  unfold keepS
  rw [List.take_succ_eq_append_getElem h, List.filter_append, am_eq _ _ h]
  congr 1
  by_cases e : l[j].2 = 0 <;> simp [e]

theorem firstAt_lt (p : Nat → Bool) : ∀ (n k : Nat), firstAt p k n = -1 ∧ (∀ j, k ≤ j → j < k + n → p j = false) ∨ ∃ i : Nat, firstAt p k n = i ∧ k ≤ i ∧ i < k + n ∧ p i = true ∧ ∀ j, k ≤ j → j < i → p j = false
  | 0, k => .inl ⟨rfl, fun j h1 h2 => by omega⟩
  | n + 1, k => by
    rw [firstAt]
    cases hp : p k
    · simp only [Bool.false_eq_true, if_false]
      rcases firstAt_lt p n (k + 1) with ⟨h, h'⟩ | ⟨i, h, h1, h2, h3, h4⟩
      · exact .inl ⟨h, fun j h1 h2 => by
          by_cases e : j = k
          · rw [e]; exact hp
          · exact h' j (by omega) (by omega)⟩
      · exact .inr ⟨i, h, by omega, by omega, h3, fun j h5 h6 => by
          by_cases e : j = k
          · rw [e]; exact hp
          · exact h4 j (by omega) h6⟩
    · simp only [if_true]
      exact .inr ⟨k, rfl, Nat.le_refl _, by omega, hp, fun j h1 h2 => by omega⟩

theorem keep_all {l : List MeanT} {i : Nat} (h : ∀ j, j < i → am l j ≠ 0) (hi : i ≤ l.length) : keepS (l.take i) = l.take i := by
  unfold keepS
  rw [List.filter_eq_self]
  intro m hm
  obtain ⟨j, hj, rfl⟩ := List.getElem_of_mem hm
  rw [List.length_take] at hj
  have := h j (by omega)
  rw [am_eq _ _ (by omega)] at this
  simpa using this

/-- The row while the means move up: the first i are those of the first j that are kept; from j on it is the old one. -/
def MovAt (l cur : List MeanT) (i j : Nat) : Prop := cur.length = l.length ∧ i ≤ j ∧ cur.take i = keepS (l.take j) ∧ ∀ q, j ≤ q → q < l.length → nm cur q = nm l q ∧ am cur q = am l q

theorem mov_skip {l cur : List MeanT} {i j : Nat} (h : MovAt l cur i j) (hj : j < l.length) (h0 : am l j = 0) : MovAt l cur i (j + 1) :=
  ⟨h.1, by have := h.2.1; omega, by rw [keep_next hj, if_pos h0, List.append_nil]; exact h.2.2.1, fun q h1 h2 => h.2.2.2 q (by omega) h2⟩

theorem mov_put {l cur : List MeanT} {i j : Nat} (h : MovAt l cur i j) (hij : i < j) (hj : j < l.length) (h0 : am l j ≠ 0) : MovAt l (cur.set i (nm l j, am l j)) (i + 1) (j + 1) := by
  have hc := h.1
  refine ⟨by rw [List.length_set]; exact hc, by omega, ?_, fun q h1 h2 => ?_⟩
  · rw [List.take_succ_eq_append_getElem (by rw [List.length_set]; omega), List.getElem_set_self, List.take_set_of_le (Nat.le_refl _), h.2.2.1, keep_next hj, if_neg h0, nm_eq _ _ hj, am_eq _ _ hj]
  · have h3 := h.2.2.2 q (by omega) h2
    have hq : q < cur.length := by omega
    have e1 : nm (cur.set i (nm l j, am l j)) q = nm cur q := by rw [nm_eq (cur.set i (nm l j, am l j)) q (by rw [List.length_set]; exact hq), List.getElem_set_ne (by omega), ← nm_eq _ _ hq]
    have e2 : am (cur.set i (nm l j, am l j)) q = am cur q := by rw [am_eq (cur.set i (nm l j, am l j)) q (by rw [List.length_set]; exact hq), List.getElem_set_ne (by omega), ← am_eq _ _ hq]
    rw [e1, e2]
    exact h3

theorem mov_start {l : List MeanT} {i : Nat} (hi : i < l.length) (h0 : am l i = 0) (h : ∀ j, j < i → am l j ≠ 0) : MovAt l l i (i + 1) :=
  ⟨rfl, by omega, by rw [keep_next hi, if_pos h0, List.append_nil, keep_all h (by omega)], fun _ _ _ => ⟨rfl, rfl⟩⟩

theorem RecRow.at {w : World} {g : Nat} {T : TypeId} {l : List MeanT} (h : RecRow MeanE w g T l) (i : Nat) (hi : i < l.length) : w.cell? ⟨g, i * 2, none⟩ = some (.string (bs (nm l i))) ∧ w.cell? ⟨g, i * 2 + 1, none⟩ = some (.int .i64 (am l i)) := by
  rw [← mean_c0 i hi, ← mean_c1 i hi]
  exact ⟨h.cell i 0 hi (by omega), h.cell i 1 hi (by omega)⟩

theorem RecRow.put2 {w : World} {g : Nat} {T : TypeId} {l : List MeanT} (h : RecRow MeanE w g T l) (i : Nat) (x : MeanT) (hi : i < l.length) :
    RecRow MeanE ((w.setCell ⟨g, i * 2, none⟩ (.string (bs x.1))).setCell ⟨g, i * 2 + 1, none⟩ (.int .i64 x.2)) g T (l.set i x) := by
  have h1 := h.put i 0 (x.1, am l i) (.string (bs x.1)) hi (by omega) (fun q hq => by
    match q, hq with
    | 0, _ => rfl
    | 1, _ => rw [mean_c1 i hi]; rfl)
  have hi2 : i < (l.set i (x.1, am l i)).length := by rw [List.length_set]; exact hi
  have h2 := h1.put i 1 x (.int .i64 x.2) hi2 (by omega) (fun q hq => by
    match q, hq with
    | 0, _ => rw [mean_c0 i hi2, nm_eq _ _ hi2, List.getElem_set_self]; rfl
    | 1, _ => rfl)
  rw [List.set_set] at h2
  exact h2

theorem grown_cell (w : World) (a : Addr) (v : Value) : w.grownBy (w.setCell a v) (some a.block) :=
  ⟨rfl, rfl, rfl, (KeepsWalks.setCell w a v).size, fun k _ hk => Below.heap_setCell _ _ _ k (fun e => hk (by rw [e]))⟩

theorem hcf2 (args : Array Value) (w : World) : (callFunc 45 args).run Tryd.prog w = .ok (.enter 45 args) w := enters_of Tryd.func45 (by kernel_rfl) rfl args w

set_option maxRecDepth 10000 in
set_option maxHeartbeats 1600000 in
theorem delete_means (g : Nat) (n c : Nat) (l : List MeanT) (w : World) (hn : n ≤ 1000) (hc : n ≤ c) (hlen : l.length = n) (hr : RecRow MeanE w g 46 l) :
    Calls Tryd.prog 44 #[.slice (some ⟨g, 0, none⟩) n c, .func (.func 45) #[] #[]] w fun e w' =>
      ∃ c', e = .returned (.slice (some ⟨g, 0, none⟩) (keepS l).length c') ∧ w.grownBy w' (some g) ∧ RecRow MeanE w' g 46 (keepS l) := by
  have HR := Lib.hid hr
  have hM : Means w (some ⟨g, 0, none⟩) n l := by have := hr.recs; rwa [hlen] at this
  have hidx := index_means 45 #[] (fun m => decide (m.2 = 0)) (some ⟨g, 0, none⟩) n c l w (by omega) hcf2 hM (fun k wr _ _ => less2_any (nm l k, am l k) wr)
  have HI := Lib.hid hidx
  clear hr hM hidx
  go_enter Tryd.func44, Tryd.ntmps44
  go_wp2_with fail
  refine HI.out.mono ?_
  rintro e w1 ⟨rfl, hb1⟩
  have HB1 := Lib.hid hb1
  have HR1 := Lib.hid (HR.out.below hb1)
  clear hb1 HI
  rcases firstAt_lt (fun k => decide (am l k = 0)) n 0 with ⟨hf, hall⟩ | ⟨i0, hf, _, hi0, h0, hall⟩
  · have HK : Hid (keepS l = l) := by
      have := keep_all (l := l) (i := l.length) (fun j hj => by have := hall j (by omega) (by omega); simpa using this) (Nat.le_refl _)
      rwa [List.take_length] at this
    rw [hf]
    clear hf hall
    go_wp2_with fail
    go_ret
    exact ⟨c, by rw [HK.out, hlen]; rfl, grown_below HB1.out _, by rw [HK.out]; exact HR1.out⟩
  · have HMV := Lib.hid (mov_start (l := l) (i := i0) (by omega) (by simpa using h0) (fun j hj => by have := hall j (by omega) hj; simpa using this))
    rw [hf]
    have e1 : ((i0 : Int) == -1) = false := by simp
    clear hf hall h0
    go_wp2_with fail
    go_loopw [5, 6, 7] (fun v5 v6 _ wr => ∃ (i j : Nat) (cur : List MeanT), v5 = .int .i64 i ∧ v6 = .int .i64 j ∧ i < j ∧ j ≤ n ∧ Hid (MovAt l cur i j) ∧ Hid (RecRow MeanE wr g 46 cur) ∧ Hid (w.grownBy wr (some g))) (fun _ v6 _ _ => n - (intOf v6).toNat)
    case atStart => exact ⟨i0, i0 + 1, l, rfl, by go_num, by omega, by omega, HMV, HR1, grown_below HB1.out _⟩
    case round =>
      clear HR1 HB1 HMV
      obtain ⟨i, j, cur, rfl, rfl, hij, hj, HMV, HRW, HGW⟩ := hrel
      have hcl := HMV.out.1
      by_cases hlt : j < n
      · obtain ⟨c0, c1⟩ := RecRow.at HRW.out j (by omega)
        have hq := HMV.out.2.2.2 j (Nat.le_refl _) (by omega)
        rw [hq.1] at c0
        rw [hq.2] at c1
        clear hq
        go_upto_region 8 with fail
        have HB2 := Lib.hid (Joins.below_alloc1 wr (.cells #[.string (bs (nm l j)), .int .i64 (am l j)] 46))
        have HX : Hid (Boxed2 (wr.alloc (.cells #[.string (bs (nm l j)), .int .i64 (am l j)] 46)) wr.heap.size (.string (bs (nm l j))) (.int .i64 (am l j))) := World.alloc_heap_new wr _
        generalize wr.alloc (.cells #[.string (bs (nm l j)), .int .i64 (am l j)] 46) = w2 at *
        have x0 := HX.out.c0
        have x1 := HX.out.c1
        clear c0 c1
        go_wp2_with fail
        refine (less2_any (nm l j, am l j) w2).mono ?_
        rintro e w3 ⟨rfl, hb3⟩
        have HB3 := Lib.hid (HB2.out.trans (hb3.mono HB2.out.size))
        have HX3 := Lib.hid (HX.out.step hb3)
        have HR3 := Lib.hid (HRW.out.below HB3.out)
        have HG3 := Lib.hid (HGW.out.trans (grown_below HB3.out (some g)))
        clear x0 x1 hb3 HX HB2 HRW HGW
        have x0 := HX3.out.c0
        have x1 := HX3.out.c1
        by_cases h0 : am l j = 0
        · have e1 : decide ((nm l j, am l j).2 = 0) = true := by simp [h0]
          rw [e1]
          have HM2 := Lib.hid (mov_skip HMV.out (by omega) h0)
          clear h0
          go_wp2_with fail
          go_roundw
          case rel => exact ⟨i, j + 1, cur, rfl, by go_num, by omega, by omega, HM2, HR3, HG3⟩
          case measure => simp [intOf]; omega
        · have e1 : decide ((nm l j, am l j).2 = 0) = false := by simp [h0]
          rw [e1]
          have HM2 := Lib.hid (mov_put HMV.out hij (by omega) h0)
          have HR4 := Lib.hid (RecRow.put2 HR3.out i (nm l j, am l j) (by omega))
          obtain ⟨d0, d1⟩ := RecRow.at HR3.out i (by omega)
          have f0 := HR3.out.free (i * 2)
          have f1 := HR3.out.free (i * 2 + 1)
          clear h0
          go_wp2_with fail
          go_roundw
          case rel => exact ⟨i + 1, j + 1, _, by go_num, by go_num, by omega, by omega, HM2, HR4, (HG3.out.trans (grown_cell w3 _ _)).trans (grown_cell _ _ _)⟩
          case measure => simp [intOf]; omega
      · have hj' : j = n := by omega
        subst hj'
        have HK : Hid (cur.take i = keepS l) := by
          have := HMV.out.2.2.1
          rwa [List.take_of_length_le (by omega : l.length ≤ j)] at this
        have HKL : Hid ((keepS l).length = i) := by
          show _ = _
          rw [← HK.out, List.length_take]
          omega
        obtain ⟨arr, ha, hs, hcc⟩ := HRW.out.take i (by omega)
        obtain ⟨arr0, ha0, hs0, _⟩ := HRW.out
        rw [ha] at ha0
        cases ha0
        obtain ⟨cur', hsame, hsz, hclr⟩ := clear_run wr g 46 arr ha (i * 2) (j - i) (c - i) (by omega)
        have HF : Hid (w.grownBy (wr.setRow g cur') (some g) ∧ RecRow MeanE (wr.setRow g cur') g 46 (keepS l)) := by
          refine ⟨HGW.out.trans ⟨rfl, rfl, rfl, by simp, fun k _ hk => setRow_other wr g k cur' (fun e => hk (by rw [e]))⟩, cur', setRow_heap wr g arr cur' _ _ ha, ?_, fun i' j' hi' hj'' => ?_⟩
          · rw [HKL.out]; omega
          · rw [HKL.out] at hi'
            have hp := place_lt (k := 2) hi' hj''
            rw [hsame _ hp, ← HK.out]
            exact hcc i' j' (by rw [List.length_take]; omega) hj''
        clear ha hs hcc hs0 hsame hsz
        go_wp2_with (simp only [hclr])
        go_ret
        exact ⟨_, by rw [HKL.out]; rfl, HF.out.1, HF.out.2⟩
end Go.Proofs.YtgpmhaeiccljaaaDoor
