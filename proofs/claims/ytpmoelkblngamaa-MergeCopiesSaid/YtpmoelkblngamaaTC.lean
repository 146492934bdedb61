/- merge: MergeCopies: the walk. -/
import Derived.Test.YtpmoelkblngamaaD6
import Derived.Test.YtpmoelkblngamaaNH
namespace Go.Proofs.Ytpmoelkblngamaa
open Go.RowKit Go.IntWalk Go.Maps Go.WideMaps

theorem copies_bl (l : List StepT) {k : Nat} (hk : k < (honS l).out.length) (h1 : (honS l).out[k].kind = 1) : blamesS [] 0 ((honS l).out ++ [newS (honS l).out[k]]) = [copyB (newS (honS l).out[k]) (honS l).out[k]] := by
  have e : (honS l).out = (honS l).out.take k ++ (honS l).out[k] :: (honS l).out.drop (k + 1) := by
    rw [← List.drop_eq_getElem_cons hk, List.take_append_drop]
  refine (blames_eq ⟨List.pairwise_singleton _ _, fun b => ?_⟩).symm
  rw [List.mem_singleton]
  exact (copy_bl (hon_all l) e h1 b).symm

set_option maxRecDepth 100000 in
set_option maxHeartbeats 3200000 in
theorem copies_law (w : World) (la : Option Addr) (n c : Nat) (l : List StepT) (z : Nat) (h : Recs StE w la n l) (hn : n ≤ 9223372036854775807) (hb : ∀ s ∈ l, s.1 ≤ 255 ∧ s.2.1 ≤ 255 ∧ s.2.2 ≤ 255) (hz : z ≤ 255) :
    Calls Try.prog 6 #[.slice la n c, .int .u8 z] w fun e w' => e = .returned (.bool true) ∧ Below w.heap.size w w' := by
  obtain rfl : l.length = n := h.1
  have HL := Lib.hid h
  have HBD := Lib.hid hb
  clear h hb
  go_enter Try.func6, Try.ntmps6
  go_wp2_with fail
  refine (head_any w).mono ?_
  rintro e w1 ⟨rfl, hbl⟩
  have HL1 := Lib.hid (HL.out.below hbl)
  have HW1 := Lib.hid hbl
  clear hbl HL
  by_cases hn0 : l.length = 0
  · rw [hn0]
    go_wp2_with fail
    go_ret
    exact ⟨rfl, HW1.out⟩
  by_cases hn60 : l.length ≤ 60
  rotate_left
  · go_wp2_with fail
    go_ret
    exact ⟨rfl, HW1.out⟩
  have hne0 : ((l.length : Int) == 0) = false := by simp; exact fun e => hn0 (by rw [e]; rfl)
  go_wp2_with fail
  refine (honest_any w1 la l.length c l HL1.out hn60 HBD.out).mono ?_
  rintro e w2 ⟨v4, rfl, ho, hbl⟩
  rw [← hon_sz l] at ho
  have hsz := hon_sz l
  rw [← hsz] at hn0 hn60 hne0
  obtain ⟨ua, uc, rfl, hor, huc⟩ := OwnRecs.of_row2 ho
  have HS2 : Hid (Scs w2 (.slice ua (honS l).out.length uc) (honS l).out) := Scs.of_own hor huc
  have HR2 := Lib.hid hor.recs
  have HW2 := Lib.hid (HW1.out.trans (hbl.mono HW1.out.size))
  have HWF : Hid (∀ s ∈ (honS l).out, OkH s) := hon_ok l HBD.out (by omega)
  have HCB := Lib.hid (fun k (hk : k < (honS l).out.length) h1 => copies_bl l hk h1)
  clear ho hor huc hbl HL1 HW1 HBD hsz
  generalize (honS l).out = L at *
  clear hn
  have hk : (z % L.length : Nat) < L.length := Nat.mod_lt _ (by omega)
  have hke : (z : Int) % (L.length : Int) = ((z % L.length : Nat) : Int) := by first | exact (Int.natCast_emod _ _).symm | exact (Int.natCast_mod _ _).symm | rfl | simp
  obtain ⟨k, hkk⟩ : ∃ k, k = z % L.length := ⟨_, rfl⟩
  rw [← hkk] at hk hke
  clear hkk
  obtain ⟨b1, o1, rfl, c0, c1, c2, c3, c4, c5⟩ := scn_at HR2.out k hk hk
  have HX : Hid (OkH L[k]) := HWF.out _ (List.getElem_mem hk)
  have HCX := Lib.hid (HCB.out k hk)
  clear HCB
  generalize L[k] = x at *
  have hki : (k : Int) < L.length := by omega
  go_upto_region 6 with fail
  have hA := Joins.below_alloc1 w2 (.cells #[.int .i64 x.gate, .int .i64 x.number, .int .i64 x.time, .int .i64 x.serial, .int .i64 x.kind, .string (bs x.owner)] 39)
  have HX5 : Hid ((w2.alloc (.cells #[.int .i64 x.gate, .int .i64 x.number, .int .i64 x.time, .int .i64 x.serial, .int .i64 x.kind, .string (bs x.owner)] 39)).heap[w2.heap.size]? = some (.cells #[.int .i64 x.gate, .int .i64 x.number, .int .i64 x.time, .int .i64 x.serial, .int .i64 x.kind, .string (bs x.owner)] 39 (0, 0))) := World.alloc_heap_new w2 _
  have HS5 := Lib.hid (HS2.out.below hA)
  have HW5 := Lib.hid (HW2.out.trans (hA.mono HW2.out.size))
  clear hA HS2 HR2 HW2 c0 c1 c2 c3 c4 c5
  generalize w2.alloc (.cells #[.int .i64 x.gate, .int .i64 x.number, .int .i64 x.time, .int .i64 x.serial, .int .i64 x.kind, .string (bs x.owner)] 39) = w5 at *
  generalize w2.heap.size = gx at *
  have HKX : Hid (∀ w' : World, Below w5.heap.size w5 w' → w'.cell? ⟨gx, 0, none⟩ = some (.int .i64 x.gate) ∧ w'.cell? ⟨gx, 1, none⟩ = some (.int .i64 x.number) ∧ w'.cell? ⟨gx, 2, none⟩ = some (.int .i64 x.time) ∧ w'.cell? ⟨gx, 3, none⟩ = some (.int .i64 x.serial) ∧ w'.cell? ⟨gx, 4, none⟩ = some (.int .i64 x.kind)) := fun w' hb =>
    ⟨Below.cell_of hb (cell_of_row (j := 0) _ _ _ _ _ HX5.out), Below.cell_of hb (cell_of_row (j := 1) _ _ _ _ _ HX5.out), Below.cell_of hb (cell_of_row (j := 2) _ _ _ _ _ HX5.out), Below.cell_of hb (cell_of_row (j := 3) _ _ _ _ _ HX5.out), Below.cell_of hb (cell_of_row (j := 4) _ _ _ _ _ HX5.out)⟩
  obtain ⟨x0, x1, x2, x3, x4⟩ := HKX.out w5 (Below.refl _ _)
  by_cases h1 : x.kind = 1
  rotate_left
  · have hb1 : (x.kind != 1) = true := by simp [h1]
    clear h1
    go_wp2_with fail
    go_ret
    exact ⟨rfl, HW5.out⟩
  have hb1 : (x.kind != 1) = false := by simp [h1]
  have HCY := Lib.hid (HCX.out h1)
  clear h1 HCX
  go_upto_region 8 with fail
  clear x0 x1 x2 x3 x4
  go_cut [8] (fun v8 wx => Scs wx v8 (L ++ [newS x]) ∧ Below w5.heap.size w5 wx)
  case rest =>
    obtain ⟨hs, hb⟩ := hcut
    have HS6 := Lib.hid hs
    have HB6 := Lib.hid hb
    have HW6 := Lib.hid (HW5.out.trans (hb.mono HW5.out.size))
    clear hs hb
    have HWE : Hid (∀ s ∈ L ++ [newS x], WfS s) := fun s hs => by
      rcases List.mem_append.mp hs with hs | hs
      · exact (HWF.out s hs).wf
      · rw [List.mem_singleton.mp hs]
        have hw := HX.out.wf
        exact ⟨wf_small (by show (-1000000 : Int) ≤ 5; omega) (by show (5 : Int) ≤ 1000000; omega), wf_small (by show (-1000000 : Int) ≤ 1; omega) (by show (1 : Int) ≤ 1000000; omega), hw.2.2.1, hw.2.2.2.1, wf_small (by show (-1000000 : Int) ≤ 1; omega) (by show (1 : Int) ≤ 1000000; omega)⟩
    go_wp2_with fail
    refine (mblames_any _ _ (L ++ [newS x]) none 0 0 [] 0 HS6.out (by rw [List.length_append]; show L.length + 1 ≤ _; omega) (Nat.le_trans (mergeS_len _) (by rw [List.length_append]; show L.length + 1 ≤ _; omega)) (Recs.none _) (by decide) HWE.out).mono ?_
    rintro e w7 ⟨pa, pc, rfl, ho, hbl⟩
    rw [show blamesS (goneOf []) 0 (L ++ [newS x]) = [copyB (newS x) x] from HCY.out] at ho ⊢
    have HP7 := Lib.hid ho.recs
    have HB7 := Lib.hid (HB6.out.trans (hbl.mono HB6.out.size))
    have HW7 := Lib.hid (HW6.out.trans (hbl.mono HW6.out.size))
    clear ho hbl HS6 HB6 HW6
    obtain ⟨x0, x1, x2, x3, x4⟩ := HKX.out w7 HB7.out
    have hA := Joins.below_alloc1 w7 (.cells #[.int .i64 1, .int .i64 x.serial, .int .i64 5, .int .i64 1, .int .i64 x.gate, .int .i64 x.number] 48)
    have HQ8 : Hid (RecRow BlmE (w7.alloc (.cells #[.int .i64 1, .int .i64 x.serial, .int .i64 5, .int .i64 1, .int .i64 x.gate, .int .i64 x.number] 48)) w7.heap.size 48 [copyB (newS x) x]) := rec_new _ (World.alloc_heap_new w7 _)
    have HP8 := Lib.hid (HP7.out.below hA)
    have HW8 := Lib.hid (HW7.out.trans (hA.mono HW7.out.size))
    clear hA
    go_wp2_with fail
    refine (blm_same pa (some ⟨w7.heap.size, 0, none⟩) 1 pc 1 1 [copyB (newS x) x] [copyB (newS x) x] _ HP8.out HQ8.out.recs (by decide) (by decide)).mono ?_
    rintro e w9 ⟨he, hq⟩
    rw [show decide ([copyB (newS x) x] = [copyB (newS x) x]) = true from decide_eq_true rfl] at he
    subst he
    have HW9 := Lib.hid (HW8.out.trans (hq.below.mono HW8.out.size))
    clear hq
    go_wp2_with fail
    go_ret
    exact ⟨rfl, HW9.out⟩
  refine wp_region_held_drew (S := fun w' => w'.cell? ⟨gx, 0, none⟩ = some (.int .i64 x.gate) ∧ w'.cell? ⟨gx, 1, none⟩ = some (.int .i64 x.number) ∧ w'.cell? ⟨gx, 2, none⟩ = some (.int .i64 x.time) ∧ w'.cell? ⟨gx, 3, none⟩ = some (.int .i64 x.serial) ∧ w'.cell? ⟨gx, 4, none⟩ = some (.int .i64 x.kind)) (by kernel_rfl) (HKX.out w5 (Below.refl _ _)) (fun hHeld => ?_)
  refine take_at (i := 1) (v := ?_) 35 rfl rfl (by kernel_rfl) (by kernel_rfl) (by kernel_rfl) (fun _ _ _ h => h) (Or.inl ⟨by rfl, ?_⟩) (by assumption) ?_
  rotate_left
  · intro w hSw; go_simp <;> with_reducible rfl
  try simp only [Act.put, List.setIfInBounds_toArray, List.set_cons_zero, List.set_cons_succ]
  refine take_at (i := 3) (v := ?_) 37 rfl rfl (by kernel_rfl) (by kernel_rfl) (by kernel_rfl) (fun _ _ _ h => h) (Or.inl ⟨by rfl, ?_⟩) (by assumption) ?_
  rotate_left
  · intro w hSw; go_simp <;> with_reducible rfl
  try simp only [Act.put, List.setIfInBounds_toArray, List.set_cons_zero, List.set_cons_succ]
  refine take_at (i := 4) (v := ?_) 38 rfl rfl (by kernel_rfl) (by kernel_rfl) (by kernel_rfl) (fun _ _ _ h => h) (Or.inl ⟨by rfl, ?_⟩) (by assumption) ?_
  rotate_left
  · intro w hSw; go_simp <;> with_reducible rfl
  try simp only [Act.put, List.setIfInBounds_toArray, List.set_cons_zero, List.set_cons_succ]
  refine take_at (i := 5) (v := ?_) 39 rfl rfl (by kernel_rfl) (by kernel_rfl) (by kernel_rfl) (fun _ _ _ h => h) (Or.inl ⟨by rfl, ?_⟩) (by assumption) ?_
  rotate_left
  · intro w hSw; go_simp <;> with_reducible rfl
  try simp only [Act.put, List.setIfInBounds_toArray, List.set_cons_zero, List.set_cons_succ]
  refine take_at (i := 6) (v := ?_) 40 rfl rfl (by kernel_rfl) (by kernel_rfl) (by kernel_rfl) (fun _ _ _ h => h) (Or.inl ⟨by rfl, ?_⟩) (by assumption) ?_
  rotate_left
  · intro w hSw; go_simp <;> with_reducible rfl
  try simp only [Act.put, List.setIfInBounds_toArray, List.set_cons_zero, List.set_cons_succ]
  refine wpAnyH_ready (rs := [0]) (by kernel_rfl) (by simp) ?_
  refine AllReadyH.cons rfl (fun K' hK => ?_) AllReadyH.nil
  have hA1 := (Joins.below_alloc1 w5 (.cells #[] 39)).drew
  have hb1 : Below w5.heap.size w5 (w5.alloc (.cells #[] 39)).drew := hA1
  have hv1 : World.ownsRow (w5.alloc (.cells #[] 39)).drew w5.heap.size 39 6 (.slice (some ⟨w5.heap.size, 0, none⟩) 0 0) 0 (flat ScnE []) := ⟨rfl, Or.inr ⟨w5.heap.size, 0, #[], rfl, Nat.le_refl _, World.alloc_heap_new w5 _, Nat.le_refl _, by decide, rfl, rfl⟩⟩
  go_simp
  go_simp
  refine hK.out _ _ (HKX.out _ hb1) (fun hHeld => ?_)
  clear hK K'
  try simp only [Act.put, List.setIfInBounds_toArray, List.set_cons_zero, List.set_cons_succ]
  generalize (w5.alloc (.cells #[] 39)).drew = w_1 at *
  refine wpAnyH_ready (rs := [2]) (by kernel_rfl) (by simp) ?_
  refine AllReadyH.cons rfl (fun K' hK => ?_) AllReadyH.nil
  obtain ⟨v2, w_2, hrun2, ho2, hg2, _⟩ := run_append_scs 22 hv1 (HS5.out.below hb1) (by omega) hb1.size
  have hb2 : Below w5.heap.size w5 w_2 := hb1.grown hg2 hb1.size (fun b e => (hv1.lt b e).1)
  refine step_append_w (by rfl) (.tmp 34) (.tmp 35) 22 rfl 22 rfl hrun2 rfl rfl ?_
  go_simp
  refine hK.out _ _ (HKX.out _ hb2) (fun hHeld => ?_)
  clear hK K'
  try simp only [Act.put, List.setIfInBounds_toArray, List.set_cons_zero, List.set_cons_succ]
  refine wpAnyH_ready (rs := [7]) (by kernel_rfl) (by simp) ?_
  refine AllReadyH.cons rfl (fun K' hK => ?_) AllReadyH.nil
  go_simp
  refine (scan_any 5 1 x.time x.serial 1 w_2).mono ?_
  rintro e w_3 ⟨rfl, hc3⟩
  have hA3 : Below w_2.heap.size w_2 w_3 := hc3
  have hb3 : Below w5.heap.size w5 w_3 := hb2.trans (hA3.mono hb2.size)
  have hv3 := row_of_heap ho2 fun r hr => hA3.block r (ho2.lt r hr).2
  go_simp
  refine hK.out _ _ (HKX.out _ hb3) (fun hHeld => ?_)
  clear hK K'
  try simp only [Act.put, List.setIfInBounds_toArray, List.set_cons_zero, List.set_cons_succ]
  refine wpAnyH_ready (rs := [8]) (by kernel_rfl) (by simp) ?_
  refine AllReadyH.cons rfl (fun K' hK => ?_) AllReadyH.nil
  have hA4 := (Joins.below_alloc1 w_3 (.cells #[.int .i64 5, .int .i64 1, .int .i64 x.time, .int .i64 x.serial, .int .i64 1, .string (bs [])] 39))
  have hb4 : Below w5.heap.size w5 (w_3.alloc (.cells #[.int .i64 5, .int .i64 1, .int .i64 x.time, .int .i64 x.serial, .int .i64 1, .string (bs [])] 39)) := hb3.trans (hA4.mono hb3.size)
  have hr4 : RecRow ScnE (w_3.alloc (.cells #[.int .i64 5, .int .i64 1, .int .i64 x.time, .int .i64 x.serial, .int .i64 1, .string (bs [])] 39)) w_3.heap.size 39 [newS x] := rec_new _ (World.alloc_heap_new w_3 _)
  have hv4 := row_of_heap hv3 fun r hr => hA4.block r (hv3.lt r hr).2
  go_simp
  go_simp
  refine hK.out _ _ (HKX.out _ hb4) (fun hHeld => ?_)
  clear hK K'
  try simp only [Act.put, List.setIfInBounds_toArray, List.set_cons_zero, List.set_cons_succ]
  generalize (w_3.alloc (.cells #[.int .i64 5, .int .i64 1, .int .i64 x.time, .int .i64 x.serial, .int .i64 1, .string (bs [])] 39)) = w_4 at *
  have hbz := hb4
  have hoz := hv4
  have hrz := hr4
  generalize w_4 = wz at *
  clear hb4 hv4 hr4
  obtain ⟨v9, w9, hrun9, ho9, hg9, _⟩ := run_append_scs 22 hoz (scs_row hrz) (by show 0 + L.length + 1 ≤ _; omega) hbz.size
  have hb9 : Below w5.heap.size w5 w9 := hbz.grown hg9 hbz.size (fun b e => (hoz.lt b e).1)
  refine wpAnyH_ready (rs := [9]) (by kernel_rfl) (by simp) ?_
  refine AllReadyH.cons rfl (fun K' hK => ?_) AllReadyH.nil
  refine step_append_w (by rfl) (.tmp 36) (.tmp 42) 22 rfl 22 rfl hrun9 rfl rfl ?_
  go_simp
  refine hK.out _ _ (HKX.out _ hb9) (fun hHeld => ?_)
  clear hK K'
  try simp only [Act.put, List.setIfInBounds_toArray, List.set_cons_zero, List.set_cons_succ]
  refine take_at (i := 10) (v := ?_) 8 rfl rfl (by kernel_rfl) (by kernel_rfl) (by kernel_rfl) (fun _ _ _ h => h) (Or.inl ⟨by rfl, ?_⟩) (by assumption) ?_
  rotate_left
  · intro w hSw; go_simp <;> with_reducible rfl
  try simp only [Act.put, List.setIfInBounds_toArray, List.set_cons_zero, List.set_cons_succ]
  refine wpAnyH_done (by kernel_rfl) ?_ _
  go_wp2_with fail
  go_meet
  case rel => exact ⟨Scs.of_row ho9, hb9⟩
end Go.Proofs.Ytpmoelkblngamaa
