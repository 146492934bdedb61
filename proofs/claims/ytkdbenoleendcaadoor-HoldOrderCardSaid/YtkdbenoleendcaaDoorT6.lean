/- hold: HoldOrder, the walk. -/
import Derived.Test.YtkdbenoleendcaaDoorT3
namespace Go.Proofs.YtkdbenoleendcaaDoor
open Go.RowKit Go.IntWalk Go.Maps Go.WideMaps

theorem fewB_two {l : List OpT} {x y : OpT} (h : fewB (l ++ [x, y]) = true) : fewB l = true ∧ fewB (l ++ [x]) = true ∧ fewB (l ++ [y]) = true ∧ l.length ≤ 38 ∧ (x.2.1.length ≤ 60 ∧ x.2.2.1.length ≤ 20) ∧ (y.2.1.length ≤ 60 ∧ y.2.2.1.length ≤ 20) := by
  have h1 := fewB_iff.mp h
  have h2 := h1.2
  rw [List.length_append] at h2
  simp at h2
  have hx := h1.1 x (by simp)
  have hy := h1.1 y (by simp)
  have hl : ∀ z ∈ l, z.2.1.length ≤ 60 ∧ z.2.2.1.length ≤ 20 := fun z hz => h1.1 z (List.mem_append_left _ hz)
  refine ⟨fewB_iff.mpr ⟨hl, by omega⟩, fewB_iff.mpr ⟨fun z hz => ?_, by simp; omega⟩, fewB_iff.mpr ⟨fun z hz => ?_, by simp; omega⟩, by omega, hx, hy⟩
  · rcases List.mem_append.mp hz with h | h
    · exact hl z h
    · rw [List.mem_singleton.mp h]; exact hx
  · rcases List.mem_append.mp hz with h | h
    · exact hl z h
    · rw [List.mem_singleton.mp h]; exact hy

theorem playN_snoc (p : Nat) (l : List OpT) (x : OpT) : playN p (l ++ [x]) = (doS nameS (playN p l) x).2 := by
  unfold playN playS
  rw [List.foldl_append]
  rfl

theorem do_take (st : St) (t : NmT) (L : List Int) (id cl : Int) : doS nameS st (0, t, L, id, cl) = (((takeS st (nameS t) t L id cl).1.1, [], (takeS st (nameS t) t L id cl).1.2), (takeS st (nameS t) t L id cl).2) := by
  unfold doS
  rw [if_pos rfl]

theorem do_take_any {g M sb : Nat} {st : St} {t : NmT} {L : List Int} {id cl : Int} {w : World} {f : FuncId} {args : Array Value} (h : Calls Tryd.prog f args w (DoPost g M sb st (0, t, L, id, cl) w)) : Calls Tryd.prog f args w fun e w' => ∃ v, e = .returned (.tuple #[.int .i64 (takeS st (nameS t) t L id cl).1.1, v, .int .i64 (takeS st (nameS t) t L id cl).1.2]) ∧ HS w' g M sb (takeS st (nameS t) t L id cl).2 ∧ Upd (Own3 g M sb) w w' := by
  refine h.mono ?_
  rintro e w' ⟨v, h1, _, h2, h3⟩
  rw [do_take] at h1 h2
  exact ⟨v, h1, h2, h3⟩

theorem box_set0 {w : World} {b : Nat} {v0 v1 v2 v3 v4 u : Value} {T : TypeId} (h : w.heap[b]? = some (.cells #[v0, v1, v2, v3, v4] T (0, 0))) : (w.setCell ⟨b, 0, none⟩ u).heap[b]? = some (.cells #[u, v1, v2, v3, v4] T (0, 0)) := by
  simp [World.setCell, Array.getElem?_modify, h]

theorem set_other {w : World} {b b' o : Nat} {u : Value} {x : Option Obj} (h : w.heap[b]? = x) (hne : b ≠ b') : (w.setCell ⟨b', o, none⟩ u).heap[b]? = x := by
  rw [← h]
  exact Below.heap_setCell _ _ _ _ (fun e => hne e)

theorem op_box {w : World} {b : Nat} {v0 v1 v2 v3 v4 : Value} {T : TypeId} (h : w.heap[b]? = some (.cells #[v0, v1, v2, v3, v4] T (0, 0))) : w.cell? ⟨b, 0, none⟩ = some v0 ∧ w.cell? ⟨b, 1, none⟩ = some v1 ∧ w.cell? ⟨b, 2, none⟩ = some v2 ∧ w.cell? ⟨b, 3, none⟩ = some v3 ∧ w.cell? ⟨b, 4, none⟩ = some v4 :=
  ⟨cell_of_row (j := 0) _ _ _ _ _ h, cell_of_row (j := 1) _ _ _ _ _ h, cell_of_row (j := 2) _ _ _ _ _ h, cell_of_row (j := 3) _ _ _ _ _ h, cell_of_row (j := 4) _ _ _ _ _ h⟩

set_option maxRecDepth 100000 in
set_option maxHeartbeats 6400000 in
theorem order_any (p : Nat) (hp : p ≤ 255) (ra : Option Addr) (n c B : Nat) (rs : List OpR) (x y : OpR) (w : World) (h : Recs OpE w ra n rs) (ho : OpsIn w B rs) (hroom : n * 64 ≤ 140737488351232) (hx : OpsIn w B [x]) (hy : OpsIn w B [y]) :
    Calls Tryd.prog 8 #[.int .u8 p, .slice ra n c, .agg #[.int .i64 x.1.1, .string (bs x.1.2.1), .slice x.2.1 x.1.2.2.1.length x.2.2, .int .i64 x.1.2.2.2.1, .int .i64 x.1.2.2.2.2], .agg #[.int .i64 y.1.1, .string (bs y.1.2.1), .slice y.2.1 y.1.2.2.1.length y.2.2, .int .i64 y.1.2.2.2.1, .int .i64 y.1.2.2.2.2]] w fun e w' => e = .returned (.bool true) ∧ Below w.heap.size w w' := by
  obtain ⟨⟨k, t, L, id, cl⟩, pa, pc⟩ := x
  obtain ⟨⟨k2, t2, L2, id2, cl2⟩, pa2, pc2⟩ := y
  have hb := (Joins.below_alloc1 w (.cells #[.int .i64 k, .string (bs t), .slice pa L.length pc, .int .i64 id, .int .i64 cl] 38)).alloc (by simp) (.cells #[.int .i64 k2, .string (bs t2), .slice pa2 L2.length pc2, .int .i64 id2, .int .i64 cl2] 38)
  have HB0 := Lib.hid hb
  have HX : Hid (((w.alloc (.cells #[.int .i64 k, .string (bs t), .slice pa L.length pc, .int .i64 id, .int .i64 cl] 38)).alloc (.cells #[.int .i64 k2, .string (bs t2), .slice pa2 L2.length pc2, .int .i64 id2, .int .i64 cl2] 38)).heap[w.heap.size]? = some (.cells #[.int .i64 k, .string (bs t), .slice pa L.length pc, .int .i64 id, .int .i64 cl] 38 (0, 0))) :=
    ((Joins.below_alloc1 _ _).block _ (by simp)).trans (World.alloc_heap_new w _)
  have HY : Hid (((w.alloc (.cells #[.int .i64 k, .string (bs t), .slice pa L.length pc, .int .i64 id, .int .i64 cl] 38)).alloc (.cells #[.int .i64 k2, .string (bs t2), .slice pa2 L2.length pc2, .int .i64 id2, .int .i64 cl2] 38)).heap[w.heap.size + 1]? = some (.cells #[.int .i64 k2, .string (bs t2), .slice pa2 L2.length pc2, .int .i64 id2, .int .i64 cl2] 38 (0, 0))) := by
    have := World.alloc_heap_new (w.alloc (.cells #[.int .i64 k, .string (bs t), .slice pa L.length pc, .int .i64 id, .int .i64 cl] 38)) (.cells #[.int .i64 k2, .string (bs t2), .slice pa2 L2.length pc2, .int .i64 id2, .int .i64 cl2] 38)
    show _ = _
    simpa using this
  have hwf := (hx _ (List.mem_singleton.mpr rfl)).1
  have hwf2 := (hy _ (List.mem_singleton.mpr rfl)).1
  have HM := Lib.hid h
  have HO := Lib.hid ho
  have HXI : Hid (OpsIn w B [((0, t, L, id, cl), pa, pc)]) := fun r hr => by
    have := hx _ (List.mem_singleton.mpr rfl)
    rw [List.mem_singleton.mp hr]
    exact this
  have HYI : Hid (OpsIn w B [((0, t2, L2, id2, cl2), pa2, pc2)]) := fun r hr => by
    have := hy _ (List.mem_singleton.mpr rfl)
    rw [List.mem_singleton.mp hr]
    exact this
  dsimp only
  clear hb h ho hx hy
  go_enter Tryd.func8, Tryd.ntmps8
  go_upto_region 1 with fail
  generalize (w.alloc (.cells #[.int .i64 k, .string (bs t), .slice pa L.length pc, .int .i64 id, .int .i64 cl] 38)).alloc (.cells #[.int .i64 k2, .string (bs t2), .slice pa2 L2.length pc2, .int .i64 id2, .int .i64 cl2] 38) = wb at *
  go_wp2_with fail
  refine (head_any wb).mono ?_
  rintro e w1 ⟨rfl, hb1⟩
  have HB1 : Hid (Below w.heap.size w w1) := HB0.out.trans (hb1.mono HB0.out.size)
  have HX1 : Hid (w1.heap[w.heap.size]? = some (.cells #[.int .i64 k, .string (bs t), .slice pa L.length pc, .int .i64 id, .int .i64 cl] 38 (0, 0))) := (hb1.block _ (lt_of_block HX.out)).trans HX.out
  have HY1 : Hid (w1.heap[w.heap.size + 1]? = some (.cells #[.int .i64 k2, .string (bs t2), .slice pa2 L2.length pc2, .int .i64 id2, .int .i64 cl2] 38 (0, 0))) := (hb1.block _ (lt_of_block HY.out)).trans HY.out
  clear hb1 HB0 HX HY
  have HW : Hid (w.heap.size = w.heap.size) := rfl
  obtain ⟨z0, _⟩ := op_box HX1.out
  obtain ⟨u0, _⟩ := op_box HY1.out
  have f0 : w1.frozen? ⟨w.heap.size, 0, none⟩ = false := by simp only [World.frozen?, HX1.out]; simp
  have f1 : (w1.setCell ⟨w.heap.size, 0, none⟩ (.int .i64 0)).frozen? ⟨w.heap.size + 1, 0, none⟩ = false := by
    have := set_other (o := 0) (u := .int .i64 0) (b' := w.heap.size) HY1.out (by omega)
    simp only [World.frozen?, this]; simp
  have u1 : (w1.setCell ⟨w.heap.size, 0, none⟩ (.int .i64 0)).cell? ⟨w.heap.size + 1, 0, none⟩ = some (.int .i64 k2) := (op_box (set_other (o := 0) (u := .int .i64 0) (b' := w.heap.size) HY1.out (by omega))).1
  go_upto_region 4 with fail
  have HX2 : Hid (((w1.setCell ⟨w.heap.size, 0, none⟩ (.int .i64 0)).setCell ⟨w.heap.size + 1, 0, none⟩ (.int .i64 0)).heap[w.heap.size]? = some (.cells #[.int .i64 0, .string (bs t), .slice pa L.length pc, .int .i64 id, .int .i64 cl] 38 (0, 0))) := set_other (box_set0 HX1.out) (by omega)
  have HY2 : Hid (((w1.setCell ⟨w.heap.size, 0, none⟩ (.int .i64 0)).setCell ⟨w.heap.size + 1, 0, none⟩ (.int .i64 0)).heap[w.heap.size + 1]? = some (.cells #[.int .i64 0, .string (bs t2), .slice pa2 L2.length pc2, .int .i64 id2, .int .i64 cl2] 38 (0, 0))) := box_set0 (set_other HY1.out (by omega))
  have HB2 : Hid (Below w.heap.size w ((w1.setCell ⟨w.heap.size, 0, none⟩ (.int .i64 0)).setCell ⟨w.heap.size + 1, 0, none⟩ (.int .i64 0))) := by
    have h1 := HB1.out.grown (grown_setCell w1 w.heap.size 0 (.int .i64 0)) HB1.out.size (fun k hk => by cases hk; exact Nat.le_refl _)
    exact h1.grown (grown_setCell _ (w.heap.size + 1) 0 (.int .i64 0)) h1.size (fun k hk => by cases hk; exact Nat.le_succ _)
  generalize (w1.setCell ⟨w.heap.size, 0, none⟩ (.int .i64 0)).setCell ⟨w.heap.size + 1, 0, none⟩ (.int .i64 0) = w2 at *
  obtain ⟨bx, hbx⟩ : ∃ bx, w.heap.size = bx := ⟨_, rfl⟩
  obtain ⟨bY, hbY⟩ : ∃ bY, w.heap.size + 1 = bY := ⟨_, rfl⟩
  have HS2 : Hid (∀ wx, Below w2.heap.size w2 wx → wx.cell? ⟨bx, 0, none⟩ = some (.int .i64 0) ∧ wx.cell? ⟨bx, 1, none⟩ = some (.string (bs t)) ∧ wx.cell? ⟨bx, 2, none⟩ = some (.slice pa L.length pc) ∧ wx.cell? ⟨bx, 3, none⟩ = some (.int .i64 id) ∧ wx.cell? ⟨bx, 4, none⟩ = some (.int .i64 cl) ∧ wx.cell? ⟨bY, 0, none⟩ = some (.int .i64 0) ∧ wx.cell? ⟨bY, 1, none⟩ = some (.string (bs t2)) ∧ wx.cell? ⟨bY, 2, none⟩ = some (.slice pa2 L2.length pc2) ∧ wx.cell? ⟨bY, 3, none⟩ = some (.int .i64 id2) ∧ wx.cell? ⟨bY, 4, none⟩ = some (.int .i64 cl2)) := fun wx hb => by
    rw [← hbx, ← hbY]
    obtain ⟨a0, a1, a2, a3, a4⟩ := op_box ((hb.block _ (lt_of_block HX2.out)).trans HX2.out)
    obtain ⟨c0, c1, c2, c3, c4⟩ := op_box ((hb.block _ (lt_of_block HY2.out)).trans HY2.out)
    exact ⟨a0, a1, a2, a3, a4, c0, c1, c2, c3, c4⟩
  have HM2 := Lib.hid (HM.out.below HB2.out)
  have HO2 := Lib.hid (HO.out.below HB2.out)
  have HXI2 := Lib.hid (HXI.out.below HB2.out)
  have HYI2 := Lib.hid (HYI.out.below HB2.out)
  have HEND : Hid (∀ wx, Below w2.heap.size w2 wx → Below w.heap.size w wx) := fun wx hx => HB2.out.trans (hx.mono HB2.out.size)
  rw [hbY, hbx]
  clear HX1 HY1 HX2 HY2 HB1 HB2 z0 u0 f0 f1 u1 hbx hbY HM HO HXI HYI HW
  have HC : Hid (∀ wx lu cu, Below w2.heap.size w2 wx → Recs OpE wx lu (rs.length + 2) (rs ++ [((0, t, L, id, cl), pa, pc), ((0, t2, L2, id2, cl2), pa2, pc2)]) → Calls Tryd.prog 10 #[.slice lu (rs.length + 2) cu] wx fun e w' => e = .returned (.bool (fewB (rs.map (·.1) ++ [(0, t, L, id, cl), (0, t2, L2, id2, cl2)]))) ∧ wx = w') := fun wx lu cu hb hr => by
    have hin : OpsIn wx B (rs ++ [((0, t, L, id, cl), pa, pc), ((0, t2, L2, id2, cl2), pa2, pc2)]) := by
      have := OpsIn.snoc (OpsIn.snoc (HO2.out.below hb) (HXI2.out.below hb)) (HYI2.out.below hb)
      rwa [List.append_assoc] at this
    have := few_any lu (rs.length + 2) cu B _ wx hr hin (by have := HM2.out.1; omega)
    rw [List.map_append] at this
    exact this
  have hs2 := HS2.out w2 (Below.refl _ _)
  refine wp_region_held_drew (S := fun w' => w'.cell? ⟨bx, 0, none⟩ = some (.int .i64 0) ∧ w'.cell? ⟨bx, 1, none⟩ = some (.string (bs t)) ∧ w'.cell? ⟨bx, 2, none⟩ = some (.slice pa L.length pc) ∧ w'.cell? ⟨bx, 3, none⟩ = some (.int .i64 id) ∧ w'.cell? ⟨bx, 4, none⟩ = some (.int .i64 cl) ∧ w'.cell? ⟨bY, 0, none⟩ = some (.int .i64 0) ∧ w'.cell? ⟨bY, 1, none⟩ = some (.string (bs t2)) ∧ w'.cell? ⟨bY, 2, none⟩ = some (.slice pa2 L2.length pc2) ∧ w'.cell? ⟨bY, 3, none⟩ = some (.int .i64 id2) ∧ w'.cell? ⟨bY, 4, none⟩ = some (.int .i64 cl2)) (by kernel_rfl) hs2 (fun hHeld => ?_)
  refine take_at (i := 1) (v := ?_) 28 rfl rfl (by kernel_rfl) (by kernel_rfl) (by kernel_rfl) (fun _ _ _ h => h) (Or.inl ⟨by rfl, ?_⟩) (by assumption) ?_
  rotate_left
  · intro w hSw; go_simp <;> with_reducible rfl
  try simp only [Act.put, List.setIfInBounds_toArray, List.set_cons_zero, List.set_cons_succ]
  refine take_at (i := 3) (v := ?_) 30 rfl rfl (by kernel_rfl) (by kernel_rfl) (by kernel_rfl) (fun _ _ _ h => h) (Or.inl ⟨by rfl, ?_⟩) (by assumption) ?_
  rotate_left
  · intro w hSw; go_simp <;> with_reducible rfl
  try simp only [Act.put, List.setIfInBounds_toArray, List.set_cons_zero, List.set_cons_succ]
  refine take_at (i := 4) (v := ?_) 31 rfl rfl (by kernel_rfl) (by kernel_rfl) (by kernel_rfl) (fun _ _ _ h => h) (Or.inl ⟨by rfl, ?_⟩) (by assumption) ?_
  rotate_left
  · intro w hSw; go_simp <;> with_reducible rfl
  try simp only [Act.put, List.setIfInBounds_toArray, List.set_cons_zero, List.set_cons_succ]
  refine wpAnyH_effects0 [(0, 27), (2, 29), (5, 32)] [[], [0], []] (FO w2.heap.size rs [((0, t, L, id, cl), pa, pc), ((0, t2, L2, id2, cl2), pa2, pc2)]) (bkO rs) _ _ 8 _ ?dist ?ready FO.below hHeld ?step ?fin
  case dist => decide
  case ready => kernel_rfl
  case step =>
    intro k' e v w3 hk3 he hSw hbw3 hneed
    have hb3 : Below w2.heap.size w2 w3 := (Below.refl _ _).drew.trans hbw3
    have hs3 := hb3.size
    rcases k' with _ | _ | _ | k'
    all_goals simp only [List.getElem?_cons_zero, List.getElem?_cons_succ, List.getElem?_nil, Option.some.injEq, reduceCtorEq] at he
    all_goals subst he
    · clear hneed
      refine wpOp_step rfl (fun K' hK => ?_)
      simp only [putAll, Act.put, List.setIfInBounds_toArray, List.set_cons_zero, List.set_cons_succ]
      go_simp
      have hb : Below w3.heap.size w3 (w3.alloc (.cells #[] 38)) := Joins.below_alloc1 w3 _
      have how := World.ownsRow_made (e := 38) (size := 5) w3 #[] 0 (Nat.le_refl _) (by unfold maxLen; omega) rfl
      refine hK _ _ ⟨.slice (some ⟨w3.heap.size, 0, none⟩) 0 0, by simp only [putAll, Act.put, List.setIfInBounds_toArray, List.set_cons_zero, List.set_cons_succ], HS2.out _ (hb3.trans (hb.mono hs3)), hb, ⟨?_, _, rfl⟩, fun b hbk => by simp [bkO] at hbk⟩
      exact row_base hs3 how
    · obtain ⟨u, w', hr, hb, hf, hbk⟩ := ops_copy hs3 hroom (HM2.out.below hb3) (hneed 0 (by simp))
      refine wpOp_step rfl (fun K' hK => ?_)
      refine step_append_w (by simp only [putAll, Act.put, List.setIfInBounds_toArray, List.set_cons_zero, List.set_cons_succ]; rfl) (.tmp 27) (.tmp 28) 22 rfl 22 rfl hr ?_ rfl ?_
      · simp only [putAll, Act.put, List.setIfInBounds_toArray, List.set_cons_zero, List.set_cons_succ]
        rfl
      · exact hK _ _ ⟨u, rfl, HS2.out _ (hb3.trans (hb.mono hs3)), hb, hf, hbk⟩
    · clear hneed
      refine wpOp_step rfl (fun K' hK => ?_)
      simp only [putAll, Act.put, List.setIfInBounds_toArray, List.set_cons_zero, List.set_cons_succ]
      go_simp
      have hb : Below w3.heap.size w3 (w3.alloc (.cells #[.int .i64 0, .string (bs t), .slice pa L.length pc, .int .i64 id, .int .i64 cl, .int .i64 0, .string (bs t2), .slice pa2 L2.length pc2, .int .i64 id2, .int .i64 cl2] 38)) := Joins.below_alloc1 w3 _
      exact hK _ _ ⟨.slice (some ⟨w3.heap.size, 0, none⟩) 2 2, by simp only [putAll, Act.put, List.setIfInBounds_toArray, List.set_cons_zero, List.set_cons_succ], HS2.out _ (hb3.trans (hb.mono hs3)), hb, ⟨_, rfl, World.alloc_heap_new w3 _⟩, fun b hbk => by simp [bkO] at hbk⟩
  case fin =>
    intro v w4 hS4 hI
    obtain ⟨b2, lu, cu, w5, f2, hr, hb5, hrec⟩ := ops_fin (w := w2.drew) (by have := HM2.out.1; omega) (by first | exact Or.inl rfl | exact Or.inr rfl) hI
    have hb5' : Below w2.heap.size w2 w5 := (Below.refl _ _).drew.trans hb5
    simp only [putAll, Act.put, List.setIfInBounds_toArray, List.set_cons_zero, List.set_cons_succ]
    rw [f2]
    clear hI hb5
    refine wpAnyH_ready (rs := [6]) (by kernel_rfl) (by simp) ?_
    refine AllReadyH.cons rfl (fun K' hK => ?_) AllReadyH.nil
    refine step_append_w (by rfl) (.tmp 29) (.tmp 32) 22 rfl 22 rfl hr rfl rfl ?_
    refine hK.out _ _ (HS2.out w5 hb5') (fun hHeld => ?_)
    clear hK K' hr f2
    try simp only [Act.put, List.setIfInBounds_toArray, List.set_cons_zero, List.set_cons_succ]
    have HCX := Lib.hid (HC.out w5 lu cu hb5' hrec)
    clear hrec
    refine wpAnyH_ready (rs := [7]) (by kernel_rfl) (by simp) ?_
    refine AllReadyH.cons rfl (fun K' hK => ?_) AllReadyH.nil
    go_simp
    refine HCX.out.mono ?_
    rintro e w6 ⟨rfl, rfl⟩
    clear HCX
    go_simp
    refine hK.out _ _ (HS2.out w5 hb5') (fun hHeld => ?_)
    clear hK K'
    try simp only [Act.put, List.setIfInBounds_toArray, List.set_cons_zero, List.set_cons_succ]
    cases hf : fewB (rs.map (·.1) ++ [(0, t, L, id, cl), (0, t2, L2, id2, cl2)])
    · refine take_at (i := 8) (v := ?_) 35 rfl rfl (by kernel_rfl) (by kernel_rfl) (by kernel_rfl) (fun _ _ _ h => h) (Or.inl ⟨by rfl, ?_⟩) (by assumption) ?_
      rotate_left
      · intro w hSw; go_simp <;> with_reducible rfl
      try simp only [Act.put, List.setIfInBounds_toArray, List.set_cons_zero, List.set_cons_succ]
      refine take_at (i := 9) (v := ?_) 36 rfl rfl (by kernel_rfl) (by kernel_rfl) (by kernel_rfl) (fun _ _ _ h => h) (Or.inl ⟨by rfl, ?_⟩) (by assumption) ?_
      rotate_left
      · intro w hSw; go_simp <;> with_reducible rfl
      try simp only [Act.put, List.setIfInBounds_toArray, List.set_cons_zero, List.set_cons_succ]
      refine take_at (i := 10) (v := undef) 37 rfl rfl (by kernel_rfl) (by kernel_rfl) (by kernel_rfl) (fun _ _ _ h => h) (Or.inr ⟨by rfl, rfl⟩) (by assumption) ?_
      try simp only [Act.put, List.setIfInBounds_toArray, List.set_cons_zero, List.set_cons_succ]
      refine take_at (i := 11) (v := undef) 38 rfl rfl (by kernel_rfl) (by kernel_rfl) (by kernel_rfl) (fun _ _ _ h => h) (Or.inr ⟨by rfl, rfl⟩) (by assumption) ?_
      try simp only [Act.put, List.setIfInBounds_toArray, List.set_cons_zero, List.set_cons_succ]
      refine take_at (i := 12) (v := undef) 39 rfl rfl (by kernel_rfl) (by kernel_rfl) (by kernel_rfl) (fun _ _ _ h => h) (Or.inr ⟨by rfl, rfl⟩) (by assumption) ?_
      try simp only [Act.put, List.setIfInBounds_toArray, List.set_cons_zero, List.set_cons_succ]
      refine take_at (i := 13) (v := ?_) 40 rfl rfl (by kernel_rfl) (by kernel_rfl) (by kernel_rfl) (fun _ _ _ h => h) (Or.inl ⟨by rfl, ?_⟩) (by assumption) ?_
      rotate_left
      · intro w hSw; go_simp <;> with_reducible rfl
      try simp only [Act.put, List.setIfInBounds_toArray, List.set_cons_zero, List.set_cons_succ]
      refine wpAnyH_done (by kernel_rfl) ?_ _
      clear hHeld hS4
      go_wp2_with fail
      go_ret
      exact ⟨rfl, HEND.out w5 hb5'⟩
    obtain ⟨hf1, hf2, hf3, hf4, hf5, hf6⟩ := fewB_two hf
    have hn38 : n ≤ 38 := by have := HM2.out.1; simp at hf4; omega
    have hd38 : decide (38 < n) = false := by simp; omega
    refine take_at (i := 8) (v := ?_) 35 rfl rfl (by kernel_rfl) (by kernel_rfl) (by kernel_rfl) (fun _ _ _ h => h) (Or.inl ⟨by rfl, ?_⟩) (by assumption) ?_
    rotate_left
    · intro w hSw; go_simp <;> with_reducible rfl
    try simp only [Act.put, List.setIfInBounds_toArray, List.set_cons_zero, List.set_cons_succ]
    refine take_at (i := 9) (v := ?_) 36 rfl rfl (by kernel_rfl) (by kernel_rfl) (by kernel_rfl) (fun _ _ _ h => h) (Or.inl ⟨by rfl, ?_⟩) (by assumption) ?_
    rotate_left
    · intro w hSw; go_simp <;> with_reducible rfl
    try simp only [Act.put, List.setIfInBounds_toArray, List.set_cons_zero, List.set_cons_succ]
    refine take_at (i := 10) (v := ?_) 37 rfl rfl (by kernel_rfl) (by kernel_rfl) (by kernel_rfl) (fun _ _ _ h => h) (Or.inl ⟨by rfl, ?_⟩) (by assumption) ?_
    rotate_left
    · intro w hSw; go_simp <;> with_reducible rfl
    try simp only [Act.put, List.setIfInBounds_toArray, List.set_cons_zero, List.set_cons_succ]
    refine take_at (i := 11) (v := ?_) 38 rfl rfl (by kernel_rfl) (by kernel_rfl) (by kernel_rfl) (fun _ _ _ h => h) (Or.inl ⟨by rfl, ?_⟩) (by assumption) ?_
    rotate_left
    · intro w hSw; go_simp <;> with_reducible rfl
    try simp only [Act.put, List.setIfInBounds_toArray, List.set_cons_zero, List.set_cons_succ]
    refine take_at (i := 12) (v := ?_) 39 rfl rfl (by kernel_rfl) (by kernel_rfl) (by kernel_rfl) (fun _ _ _ h => h) (Or.inl ⟨by rfl, ?_⟩) (by assumption) ?_
    rotate_left
    · intro w hSw; go_simp <;> with_reducible rfl
    try simp only [Act.put, List.setIfInBounds_toArray, List.set_cons_zero, List.set_cons_succ]
    refine take_at (i := 13) (v := ?_) 40 rfl rfl (by kernel_rfl) (by kernel_rfl) (by kernel_rfl) (fun _ _ _ h => h) (Or.inl ⟨by rfl, ?_⟩) (by assumption) ?_
    rotate_left
    · intro w hSw; go_simp <;> with_reducible rfl
    try simp only [Act.put, List.setIfInBounds_toArray, List.set_cons_zero, List.set_cons_succ]
    refine wpAnyH_done (by kernel_rfl) ?_ _
    clear hHeld hS4
    have HB5 : Hid (Below w2.heap.size w2 w5) := hb5'
    have HS5 : Hid (∀ wx, Below w5.heap.size w5 wx → wx.cell? ⟨bx, 0, none⟩ = some (.int .i64 0) ∧ wx.cell? ⟨bx, 1, none⟩ = some (.string (bs t)) ∧ wx.cell? ⟨bx, 2, none⟩ = some (.slice pa L.length pc) ∧ wx.cell? ⟨bx, 3, none⟩ = some (.int .i64 id) ∧ wx.cell? ⟨bx, 4, none⟩ = some (.int .i64 cl) ∧ wx.cell? ⟨bY, 0, none⟩ = some (.int .i64 0) ∧ wx.cell? ⟨bY, 1, none⟩ = some (.string (bs t2)) ∧ wx.cell? ⟨bY, 2, none⟩ = some (.slice pa2 L2.length pc2) ∧ wx.cell? ⟨bY, 3, none⟩ = some (.int .i64 id2) ∧ wx.cell? ⟨bY, 4, none⟩ = some (.int .i64 cl2)) := fun wx hb => HS2.out wx (HB5.out.trans (hb.mono HB5.out.size))
    have HM5 := Lib.hid (HM2.out.below HB5.out)
    have HF1 := Lib.hid hf1
    have HF2 := Lib.hid hf2
    have HF3 := Lib.hid hf3
    dsimp only at hf5 hf6
    clear hf hf1 hf2 hf3 hf4 hd38 hb5' HC hs2
    have HPX : Hid (∀ wx lu cu, Below w2.heap.size w2 wx → Recs OpE wx lu (rs.length + 1) (rs ++ [((0, t, L, id, cl), pa, pc)]) → Calls Tryd.prog 11 #[.int .u8 p, .slice lu (rs.length + 1) cu] wx (PlayPost (playN p (rs.map (·.1) ++ [(0, t, L, id, cl)])) wx)) := fun wx lu cu hb hr => by
      have := played_any p hp lu (rs.length + 1) cu B _ wx hr (OpsIn.snoc (HO2.out.below hb) (HXI2.out.below hb)) (by rw [List.map_append]; exact HF2.out)
      rw [List.map_append] at this
      exact this
    have HPY : Hid (∀ wx lu cu, Below w2.heap.size w2 wx → Recs OpE wx lu (rs.length + 1) (rs ++ [((0, t2, L2, id2, cl2), pa2, pc2)]) → Calls Tryd.prog 11 #[.int .u8 p, .slice lu (rs.length + 1) cu] wx (PlayPost (playN p (rs.map (·.1) ++ [(0, t2, L2, id2, cl2)])) wx)) := fun wx lu cu hb hr => by
      have := played_any p hp lu (rs.length + 1) cu B _ wx hr (OpsIn.snoc (HO2.out.below hb) (HYI2.out.below hb)) (by rw [List.map_append]; exact HF3.out)
      rw [List.map_append] at this
      exact this
    have HCX5 : Hid (∀ wx lu cu, Below w5.heap.size w5 wx → Recs OpE wx lu (rs.length + 1) (rs ++ [((0, t, L, id, cl), pa, pc)]) → Calls Tryd.prog 11 #[.int .u8 p, .slice lu (rs.length + 1) cu] wx (PlayPost (playN p (rs.map (·.1) ++ [(0, t, L, id, cl)])) wx)) := fun wx lu cu hb hr => HPX.out wx lu cu (HB5.out.trans (hb.mono HB5.out.size)) hr
    have hs5 := HS5.out w5 (Below.refl _ _)
    go_upto_region 6 with fail
    refine wp_region_held_drew (S := fun w' => w'.cell? ⟨bx, 0, none⟩ = some (.int .i64 0) ∧ w'.cell? ⟨bx, 1, none⟩ = some (.string (bs t)) ∧ w'.cell? ⟨bx, 2, none⟩ = some (.slice pa L.length pc) ∧ w'.cell? ⟨bx, 3, none⟩ = some (.int .i64 id) ∧ w'.cell? ⟨bx, 4, none⟩ = some (.int .i64 cl) ∧ w'.cell? ⟨bY, 0, none⟩ = some (.int .i64 0) ∧ w'.cell? ⟨bY, 1, none⟩ = some (.string (bs t2)) ∧ w'.cell? ⟨bY, 2, none⟩ = some (.slice pa2 L2.length pc2) ∧ w'.cell? ⟨bY, 3, none⟩ = some (.int .i64 id2) ∧ w'.cell? ⟨bY, 4, none⟩ = some (.int .i64 cl2)) (by kernel_rfl) hs5 (fun hHeld => ?_)
    refine take_at (i := 0) (v := ?_) 42 rfl rfl (by kernel_rfl) (by kernel_rfl) (by kernel_rfl) (fun _ _ _ h => h) (Or.inl ⟨by rfl, ?_⟩) (by assumption) ?_
    rotate_left
    · intro w hSw; go_simp <;> with_reducible rfl
    try simp only [Act.put, List.setIfInBounds_toArray, List.set_cons_zero, List.set_cons_succ]
    refine take_at (i := 2) (v := ?_) 44 rfl rfl (by kernel_rfl) (by kernel_rfl) (by kernel_rfl) (fun _ _ _ h => h) (Or.inl ⟨by rfl, ?_⟩) (by assumption) ?_
    rotate_left
    · intro w hSw; go_simp <;> with_reducible rfl
    try simp only [Act.put, List.setIfInBounds_toArray, List.set_cons_zero, List.set_cons_succ]
    refine take_at (i := 4) (v := ?_) 46 rfl rfl (by kernel_rfl) (by kernel_rfl) (by kernel_rfl) (fun _ _ _ h => h) (Or.inl ⟨by rfl, ?_⟩) (by assumption) ?_
    rotate_left
    · intro w hSw; go_simp <;> with_reducible rfl
    try simp only [Act.put, List.setIfInBounds_toArray, List.set_cons_zero, List.set_cons_succ]
    refine wpAnyH_effects0 [(1, 43), (3, 45), (5, 47)] [[], [0], []] (FO w5.heap.size rs [((0, t, L, id, cl), pa, pc)]) (bkO rs) _ _ 3 _ ?dist ?ready FO.below hHeld ?step ?fin
    case dist => decide
    case ready => kernel_rfl
    case step =>
      intro k' e v w3x hk3 he hSw hbw3 hneed
      have hb3 : Below w5.heap.size w5 w3x := (Below.refl _ _).drew.trans hbw3
      have hs3 := hb3.size
      rcases k' with _ | _ | _ | k'
      all_goals simp only [List.getElem?_cons_zero, List.getElem?_cons_succ, List.getElem?_nil, Option.some.injEq, reduceCtorEq] at he
      all_goals subst he
      · clear hneed
        refine wpOp_step rfl (fun K' hK => ?_)
        simp only [putAll, Act.put, List.setIfInBounds_toArray, List.set_cons_zero, List.set_cons_succ]
        go_simp
        have hb : Below w3x.heap.size w3x (w3x.alloc (.cells #[] 38)) := Joins.below_alloc1 w3x _
        have how := World.ownsRow_made (e := 38) (size := 5) w3x #[] 0 (Nat.le_refl _) (by unfold maxLen; omega) rfl
        refine hK _ _ ⟨.slice (some ⟨w3x.heap.size, 0, none⟩) 0 0, by simp only [putAll, Act.put, List.setIfInBounds_toArray, List.set_cons_zero, List.set_cons_succ], HS5.out _ (hb3.trans (hb.mono hs3)), hb, ⟨?_, _, rfl⟩, fun b hbk => by simp [bkO] at hbk⟩
        exact row_base hs3 how
      · obtain ⟨u, w', hr, hb, hf, hbk⟩ := ops_copy hs3 hroom (HM5.out.below hb3) (hneed 0 (by simp))
        refine wpOp_step rfl (fun K' hK => ?_)
        refine step_append_w (by simp only [putAll, Act.put, List.setIfInBounds_toArray, List.set_cons_zero, List.set_cons_succ]; rfl) (.tmp 43) (.tmp 44) 22 rfl 22 rfl hr ?_ rfl ?_
        · simp only [putAll, Act.put, List.setIfInBounds_toArray, List.set_cons_zero, List.set_cons_succ]
          rfl
        · exact hK _ _ ⟨u, rfl, HS5.out _ (hb3.trans (hb.mono hs3)), hb, hf, hbk⟩
      · clear hneed
        refine wpOp_step rfl (fun K' hK => ?_)
        simp only [putAll, Act.put, List.setIfInBounds_toArray, List.set_cons_zero, List.set_cons_succ]
        go_simp
        have hb : Below w3x.heap.size w3x (w3x.alloc (.cells #[.int .i64 0, .string (bs t), .slice pa L.length pc, .int .i64 id, .int .i64 cl] 38)) := Joins.below_alloc1 w3x _
        exact hK _ _ ⟨.slice (some ⟨w3x.heap.size, 0, none⟩) 1 1, by simp only [putAll, Act.put, List.setIfInBounds_toArray, List.set_cons_zero, List.set_cons_succ], HS5.out _ (hb3.trans (hb.mono hs3)), hb, ⟨_, rfl, World.alloc_heap_new w3x _⟩, fun b hbk => by simp [bkO] at hbk⟩
    case fin =>
      intro v w4x hS4x hIx
      obtain ⟨b2x, lux, cux, w5x, f2x, hr, hb5x, hrecx⟩ := ops_fin (w := w5.drew) (by have := HM5.out.1; omega) (by first | exact Or.inl rfl | exact Or.inr rfl) hIx
      have hb5x' : Below w5.heap.size w5 w5x := (Below.refl _ _).drew.trans hb5x
      simp only [putAll, Act.put, List.setIfInBounds_toArray, List.set_cons_zero, List.set_cons_succ]
      rw [f2x]
      clear hIx hb5x
      refine wpAnyH_ready (rs := [6]) (by kernel_rfl) (by simp) ?_
      refine AllReadyH.cons rfl (fun K' hK => ?_) AllReadyH.nil
      refine step_append_w (by rfl) (.tmp 45) (.tmp 47) 22 rfl 22 rfl hr rfl rfl ?_
      refine hK.out _ _ (HS5.out w5x hb5x') (fun hHeld => ?_)
      clear hK K' hr f2x
      try simp only [Act.put, List.setIfInBounds_toArray, List.set_cons_zero, List.set_cons_succ]
      have HCXx := Lib.hid (HCX5.out w5x lux cux hb5x' hrecx)
      clear hrecx
      refine wpAnyH_ready (rs := [7]) (by kernel_rfl) (by simp) ?_
      refine AllReadyH.cons rfl (fun K' hK => ?_) AllReadyH.nil
      go_simp
      refine HCXx.out.mono ?_
      rintro e w6 ⟨g, M, sb, rfl, hb6, hh6, ho6⟩
      clear HCXx
      go_simp
      refine hK.out _ _ (HS5.out w6 (hb5x'.trans (hb6.mono hb5x'.size))) (fun hHeld => ?_)
      clear hK K'
      try simp only [Act.put, List.setIfInBounds_toArray, List.set_cons_zero, List.set_cons_succ]
      refine take_at (i := 8) (v := ?_) 10 rfl rfl (by kernel_rfl) (by kernel_rfl) (by kernel_rfl) (fun _ _ _ h => h) (Or.inl ⟨by rfl, ?_⟩) (by assumption) ?_
      rotate_left
      · intro w hSw; go_simp <;> with_reducible rfl
      try simp only [Act.put, List.setIfInBounds_toArray, List.set_cons_zero, List.set_cons_succ]
      refine wpAnyH_done (by kernel_rfl) ?_ _
      clear hHeld hS4x
      have HB6 : Hid (Below w5.heap.size w5 w6) := hb5x'.trans (hb6.mono hb5x'.size)
      have HA6 : Hid (Hd w5 w6 g M sb (playN p (rs.map (·.1) ++ [(0, t, L, id, cl)]))) := ⟨HB6.out, hh6, fun i hi => Nat.le_trans hb5x'.size (ho6 i hi)⟩
      have HS6 : Hid (∀ wx, Below w6.heap.size w6 wx → wx.cell? ⟨bx, 0, none⟩ = some (.int .i64 0) ∧ wx.cell? ⟨bx, 1, none⟩ = some (.string (bs t)) ∧ wx.cell? ⟨bx, 2, none⟩ = some (.slice pa L.length pc) ∧ wx.cell? ⟨bx, 3, none⟩ = some (.int .i64 id) ∧ wx.cell? ⟨bx, 4, none⟩ = some (.int .i64 cl) ∧ wx.cell? ⟨bY, 0, none⟩ = some (.int .i64 0) ∧ wx.cell? ⟨bY, 1, none⟩ = some (.string (bs t2)) ∧ wx.cell? ⟨bY, 2, none⟩ = some (.slice pa2 L2.length pc2) ∧ wx.cell? ⟨bY, 3, none⟩ = some (.int .i64 id2) ∧ wx.cell? ⟨bY, 4, none⟩ = some (.int .i64 cl2)) := fun wx hb => HS5.out wx (HB6.out.trans (hb.mono HB6.out.size))
      have HM6 := Lib.hid (HM5.out.below HB6.out)
      have HCY6 : Hid (∀ wx lu cu, Below w6.heap.size w6 wx → Recs OpE wx lu (rs.length + 1) (rs ++ [((0, t2, L2, id2, cl2), pa2, pc2)]) → Calls Tryd.prog 11 #[.int .u8 p, .slice lu (rs.length + 1) cu] wx (PlayPost (playN p (rs.map (·.1) ++ [(0, t2, L2, id2, cl2)])) wx)) := fun wx lu cu hb hr => HPY.out wx lu cu (HB5.out.trans ((HB6.out.trans (hb.mono HB6.out.size)).mono HB5.out.size)) hr
      have hs6 := HS6.out w6 (Below.refl _ _)
      clear hb6 hh6 ho6 hb5x' hs5 HCX5 HPX
      go_upto_region 7 with fail
      refine wp_region_held_drew (S := fun w' => w'.cell? ⟨bx, 0, none⟩ = some (.int .i64 0) ∧ w'.cell? ⟨bx, 1, none⟩ = some (.string (bs t)) ∧ w'.cell? ⟨bx, 2, none⟩ = some (.slice pa L.length pc) ∧ w'.cell? ⟨bx, 3, none⟩ = some (.int .i64 id) ∧ w'.cell? ⟨bx, 4, none⟩ = some (.int .i64 cl) ∧ w'.cell? ⟨bY, 0, none⟩ = some (.int .i64 0) ∧ w'.cell? ⟨bY, 1, none⟩ = some (.string (bs t2)) ∧ w'.cell? ⟨bY, 2, none⟩ = some (.slice pa2 L2.length pc2) ∧ w'.cell? ⟨bY, 3, none⟩ = some (.int .i64 id2) ∧ w'.cell? ⟨bY, 4, none⟩ = some (.int .i64 cl2)) (by kernel_rfl) hs6 (fun hHeld => ?_)
      refine take_at (i := 0) (v := ?_) 50 rfl rfl (by kernel_rfl) (by kernel_rfl) (by kernel_rfl) (fun _ _ _ h => h) (Or.inl ⟨by rfl, ?_⟩) (by assumption) ?_
      rotate_left
      · intro w hSw; go_simp <;> with_reducible rfl
      try simp only [Act.put, List.setIfInBounds_toArray, List.set_cons_zero, List.set_cons_succ]
      refine take_at (i := 2) (v := ?_) 52 rfl rfl (by kernel_rfl) (by kernel_rfl) (by kernel_rfl) (fun _ _ _ h => h) (Or.inl ⟨by rfl, ?_⟩) (by assumption) ?_
      rotate_left
      · intro w hSw; go_simp <;> with_reducible rfl
      try simp only [Act.put, List.setIfInBounds_toArray, List.set_cons_zero, List.set_cons_succ]
      refine take_at (i := 4) (v := ?_) 54 rfl rfl (by kernel_rfl) (by kernel_rfl) (by kernel_rfl) (fun _ _ _ h => h) (Or.inl ⟨by rfl, ?_⟩) (by assumption) ?_
      rotate_left
      · intro w hSw; go_simp <;> with_reducible rfl
      try simp only [Act.put, List.setIfInBounds_toArray, List.set_cons_zero, List.set_cons_succ]
      refine wpAnyH_effects0 [(1, 51), (3, 53), (5, 55)] [[], [0], []] (FO w6.heap.size rs [((0, t2, L2, id2, cl2), pa2, pc2)]) (bkO rs) _ _ 3 _ ?dist ?ready FO.below hHeld ?step ?fin
      case dist => decide
      case ready => kernel_rfl
      case step =>
        intro k' e v w3y hk3 he hSw hbw3 hneed
        have hb3 : Below w6.heap.size w6 w3y := (Below.refl _ _).drew.trans hbw3
        have hs3 := hb3.size
        rcases k' with _ | _ | _ | k'
        all_goals simp only [List.getElem?_cons_zero, List.getElem?_cons_succ, List.getElem?_nil, Option.some.injEq, reduceCtorEq] at he
        all_goals subst he
        · clear hneed
          refine wpOp_step rfl (fun K' hK => ?_)
          simp only [putAll, Act.put, List.setIfInBounds_toArray, List.set_cons_zero, List.set_cons_succ]
          go_simp
          have hb : Below w3y.heap.size w3y (w3y.alloc (.cells #[] 38)) := Joins.below_alloc1 w3y _
          have how := World.ownsRow_made (e := 38) (size := 5) w3y #[] 0 (Nat.le_refl _) (by unfold maxLen; omega) rfl
          refine hK _ _ ⟨.slice (some ⟨w3y.heap.size, 0, none⟩) 0 0, by simp only [putAll, Act.put, List.setIfInBounds_toArray, List.set_cons_zero, List.set_cons_succ], HS6.out _ (hb3.trans (hb.mono hs3)), hb, ⟨?_, _, rfl⟩, fun b hbk => by simp [bkO] at hbk⟩
          exact row_base hs3 how
        · obtain ⟨u, w', hr, hb, hf, hbk⟩ := ops_copy hs3 hroom (HM6.out.below hb3) (hneed 0 (by simp))
          refine wpOp_step rfl (fun K' hK => ?_)
          refine step_append_w (by simp only [putAll, Act.put, List.setIfInBounds_toArray, List.set_cons_zero, List.set_cons_succ]; rfl) (.tmp 51) (.tmp 52) 22 rfl 22 rfl hr ?_ rfl ?_
          · simp only [putAll, Act.put, List.setIfInBounds_toArray, List.set_cons_zero, List.set_cons_succ]
            rfl
          · exact hK _ _ ⟨u, rfl, HS6.out _ (hb3.trans (hb.mono hs3)), hb, hf, hbk⟩
        · clear hneed
          refine wpOp_step rfl (fun K' hK => ?_)
          simp only [putAll, Act.put, List.setIfInBounds_toArray, List.set_cons_zero, List.set_cons_succ]
          go_simp
          have hb : Below w3y.heap.size w3y (w3y.alloc (.cells #[.int .i64 0, .string (bs t2), .slice pa2 L2.length pc2, .int .i64 id2, .int .i64 cl2] 38)) := Joins.below_alloc1 w3y _
          exact hK _ _ ⟨.slice (some ⟨w3y.heap.size, 0, none⟩) 1 1, by simp only [putAll, Act.put, List.setIfInBounds_toArray, List.set_cons_zero, List.set_cons_succ], HS6.out _ (hb3.trans (hb.mono hs3)), hb, ⟨_, rfl, World.alloc_heap_new w3y _⟩, fun b hbk => by simp [bkO] at hbk⟩
      case fin =>
        intro v w4y hS4y hIy
        obtain ⟨b2y, luy, cuy, w5y, f2y, hr, hb5y, hrecy⟩ := ops_fin (w := w6.drew) (by have := HM6.out.1; omega) (by first | exact Or.inl rfl | exact Or.inr rfl) hIy
        have hb5y' : Below w6.heap.size w6 w5y := (Below.refl _ _).drew.trans hb5y
        simp only [putAll, Act.put, List.setIfInBounds_toArray, List.set_cons_zero, List.set_cons_succ]
        rw [f2y]
        clear hIy hb5y
        refine wpAnyH_ready (rs := [6]) (by kernel_rfl) (by simp) ?_
        refine AllReadyH.cons rfl (fun K' hK => ?_) AllReadyH.nil
        refine step_append_w (by rfl) (.tmp 53) (.tmp 55) 22 rfl 22 rfl hr rfl rfl ?_
        refine hK.out _ _ (HS6.out w5y hb5y') (fun hHeld => ?_)
        clear hK K' hr f2y
        try simp only [Act.put, List.setIfInBounds_toArray, List.set_cons_zero, List.set_cons_succ]
        have HCXy := Lib.hid (HCY6.out w5y luy cuy hb5y' hrecy)
        clear hrecy
        refine wpAnyH_ready (rs := [7]) (by kernel_rfl) (by simp) ?_
        refine AllReadyH.cons rfl (fun K' hK => ?_) AllReadyH.nil
        go_simp
        refine HCXy.out.mono ?_
        rintro e w7 ⟨g2, M2, sb2, rfl, hb7, hh7, ho7⟩
        clear HCXy
        go_simp
        refine hK.out _ _ (HS6.out w7 (hb5y'.trans (hb7.mono hb5y'.size))) (fun hHeld => ?_)
        clear hK K'
        try simp only [Act.put, List.setIfInBounds_toArray, List.set_cons_zero, List.set_cons_succ]
        refine take_at (i := 8) (v := ?_) 11 rfl rfl (by kernel_rfl) (by kernel_rfl) (by kernel_rfl) (fun _ _ _ h => h) (Or.inl ⟨by rfl, ?_⟩) (by assumption) ?_
        rotate_left
        · intro w hSw; go_simp <;> with_reducible rfl
        try simp only [Act.put, List.setIfInBounds_toArray, List.set_cons_zero, List.set_cons_succ]
        refine wpAnyH_done (by kernel_rfl) ?_ _
        clear hHeld hS4y
        have HB7 : Hid (Below w6.heap.size w6 w7) := hb5y'.trans (hb7.mono hb5y'.size)
        have HA7 := Lib.hid (HA6.out.next HB7.out)
        have HBb : Hid (Hd w6 w7 g2 M2 sb2 (playN p (rs.map (·.1) ++ [(0, t2, L2, id2, cl2)]))) := ⟨HB7.out, hh7, fun i hi => Nat.le_trans hb5y'.size (ho7 i hi)⟩
        have HAP : Hid (∀ i, Own3 g2 M2 sb2 i → ¬ Own3 g M sb i) := fun i hi hi2 => by
          have := HA6.out.hs.lt hi2
          have := HBb.out.own i hi
          omega
        have HBB : Hid (Hd w5 w7 g2 M2 sb2 (playN p (rs.map (·.1) ++ [(0, t2, L2, id2, cl2)]))) := ⟨HA7.out.below, HBb.out.hs, fun i hi => Nat.le_trans HB6.out.size (HBb.out.own i hi)⟩
        have HM7 := Lib.hid (HM6.out.below HB7.out)
        have HO7 : Hid (OpsIn w7 B rs) := HO2.out.below (HB5.out.trans (HA7.out.below.mono HB5.out.size))
        have hlast : (playN p (rs.map (·.1))).last ≤ 38 := by
          have h1 := playN_last p (rs.map (·.1))
          have h2 := HM5.out.1
          rw [List.length_map] at h1
          omega
        have hspl : (playN p (rs.map (·.1))).sp.length ≤ 20 := by rw [playN_len]; omega
        have HI := Lib.hid (playN_inv p (rs.map (·.1)))
        have hol := inv_len HI.out
        clear hb7 hh7 ho7 hb5y' hs6 HCY6 HPY HBb HA6 HM6 HM5
        go_wp2_with fail
        refine (played_any p hp ra n c B rs w7 HM7.out HO7.out HF1.out).mono ?_
        rintro e w8 ⟨g3, M3, sb3, rfl, hb8, hh8, _⟩
        have HA8 := Lib.hid (HA7.out.next hb8)
        have HBB8 := Lib.hid (HBB.out.next hb8)
        have HT8 := Lib.hid hh8
        rw [playN_snoc, do_take] at HA8
        rw [playN_snoc, do_take] at HBB8
        obtain ⟨st, hst⟩ : ∃ st, st = playN p (rs.map (·.1)) := ⟨_, rfl⟩
        rw [← hst] at HA8 HBB8 HT8 hlast hspl HI hol
        dsimp only at HA8 HBB8
        clear hb8 hh8 hst HA7 HBB HM7 HO7
        go_wp2_with fail
        refine (hs_list HT8.out (by omega)).mono ?_
        rintro e w9 ⟨v9, rfl, hb9, _, hr9⟩
        have HA9 := Lib.hid (HA8.out.next hb9)
        have HB9 := Lib.hid (HBB8.out.next hb9)
        obtain ⟨E9, l9, c9, rfl, hE9, _⟩ := hr9
        have hn9 : E9.length = st.op.length := by rw [← hE9, List.length_map]
        rw [hn9]
        clear hb9 hE9 hn9 HA8 HBB8 HT8
        obtain ⟨nx, hnx⟩ : ∃ nx, nx = (takeS st (nameS t) t L id cl).2.op.length := ⟨_, rfl⟩
        obtain ⟨ny, hny⟩ : ∃ ny, ny = (takeS st (nameS t2) t2 L2 id2 cl2).2.op.length := ⟨_, rfl⟩
        have hlx : (takeS st (nameS t) t L id cl).2.last ≤ 39 := by have := do_last (nm := nameS) HI.out (0, t, L, id, cl); rw [do_take] at this; dsimp only at this; omega
        have hly : (takeS st (nameS t2) t2 L2 id2 cl2).2.last ≤ 39 := by have := do_last (nm := nameS) HI.out (0, t2, L2, id2, cl2); rw [do_take] at this; dsimp only at this; omega
        have hsx : (takeS st (nameS t) t L id cl).2.sp.length = st.sp.length := by have := do_len (nm := nameS) (st := st) (0, t, L, id, cl); rw [do_take] at this; exact this
        have hsy : (takeS st (nameS t2) t2 L2 id2 cl2).2.sp.length = st.sp.length := by have := do_len (nm := nameS) (st := st) (0, t2, L2, id2, cl2); rw [do_take] at this; exact this
        have HIX : Hid (Inv (takeS st (nameS t) t L id cl).2) := take_inv HI.out _ _ _ _ _
        have HIY : Hid (Inv (takeS st (nameS t2) t2 L2 id2 cl2).2) := take_inv HI.out _ _ _ _ _
        have hnxl := inv_len HIX.out
        have hnyl := inv_len HIY.out
        rw [← hnx] at hnxl
        rw [← hny] at hnyl
        have HGX : Hid (nx = st.op.length + 1 → Taken st (nameS t) t L id cl) := fun e => take_grows (by rw [← hnx]; exact e)
        have HGY : Hid (ny = st.op.length + 1 → Taken st (nameS t2) t2 L2 id2 cl2) := fun e => take_grows (by rw [← hny]; exact e)
        obtain ⟨sa, hsa⟩ : ∃ sa, sa = (takeS st (nameS t) t L id cl).2 := ⟨_, rfl⟩
        obtain ⟨sbb, hsbb⟩ : ∃ sbb, sbb = (takeS st (nameS t2) t2 L2 id2 cl2).2 := ⟨_, rfl⟩
        have HSA := Lib.hid hsa
        have HSBB := Lib.hid hsbb
        rw [← hsa] at hnx hlx hsx HIX HA9
        rw [← hsbb] at hny hly hsy HIY HB9
        obtain ⟨m, hm⟩ : ∃ m, m = st.op.length := ⟨_, rfl⟩
        rw [← hm] at HGX HGY hol ⊢
        have HMM := Lib.hid hm
        clear hsa hsbb hm
        go_wp2_with fail
        refine (hs_list HA9.out.hs (by omega)).mono ?_
        rintro e w10 ⟨v10, rfl, hb10, _, hr10⟩
        have HA10 := Lib.hid (HA9.out.next hb10)
        have HB10 := Lib.hid (HB9.out.next hb10)
        obtain ⟨E10, l10, c10, rfl, hE10, _⟩ := hr10
        have hn10 : E10.length = nx := by rw [hnx, ← hE10, List.length_map]
        rw [hn10]
        have HNX := Lib.hid hnx
        have HNY := Lib.hid hny
        have HEND2 : Hid (∀ wx, Below w5.heap.size w5 wx → Below w.heap.size w wx) := fun wx hx => HEND.out wx (HB5.out.trans (hx.mono HB5.out.size))
        clear hb10 hE10 hn10 HA9 HB9 hnx hny
        by_cases hx1 : nx = m + 1
        · have HTX := Lib.hid (HGX.out hx1)
          clear HGX
          have hbx1 : ((nx : Int) == (m : Int) + 1) = true := by rw [hx1]; simp
          have hbx2 : ((nx : Int) != (m : Int) + 1) = false := by rw [hx1]; simp
          go_wp2_with fail
          refine (hs_list HB10.out.hs (by omega)).mono ?_
          rintro e w11 ⟨v11, rfl, hb11, _, hr11⟩
          have HA11 := Lib.hid (HA10.out.next hb11)
          have HB11 := Lib.hid (HB10.out.next hb11)
          obtain ⟨E11, l11, c11, rfl, hE11, _⟩ := hr11
          have hn11 : E11.length = ny := by rw [HNY.out, ← hE11, List.length_map]
          rw [hn11]
          clear hb11 hE11 hn11 HA10 HB10
          by_cases hy1 : ny = m + 1
          · have HTY := Lib.hid (HGY.out hy1)
            clear HGY
            have hby1 : ((ny : Int) == (m : Int) + 1) = true := by rw [hy1]; simp
            have hby2 : ((ny : Int) != (m : Int) + 1) = false := by rw [hy1]; simp
            have HE1 : Hid ((takeS sa (nameS t2) t2 L2 id2 cl2).1.2 = if (∃ p ∈ L, p ∈ L2) then 16 else 0) := by
              show _ = _
              rw [HSA.out]
              exact take_second HTX.out HTY.out (by rw [← HMM.out]; omega)
            have HE2 : Hid ((takeS sbb (nameS t) t L id cl).1.2 = if (∃ p ∈ L, p ∈ L2) then 16 else 0) := by
              show _ = _
              rw [HSBB.out, take_second HTY.out HTX.out (by rw [← HMM.out]; omega)]
              have : (∃ p ∈ L2, p ∈ L) ↔ (∃ p ∈ L, p ∈ L2) := ⟨fun ⟨p, h1, h2⟩ => ⟨p, h2, h1⟩, fun ⟨p, h1, h2⟩ => ⟨p, h2, h1⟩⟩
              simp only [this]
            have HCM : Hid (L.any (fun q => decide (q ∈ L2)) = decide (∃ p ∈ L, p ∈ L2)) := by
              show _ = _
              by_cases h : ∃ p ∈ L, p ∈ L2
              · obtain ⟨p, h1, h2⟩ := h
                have : L.any (fun q => decide (q ∈ L2)) = true := List.any_eq_true.mpr ⟨p, h1, by simp [h2]⟩
                rw [this]
                simp only [true_eq_decide_iff]
                exact ⟨p, h1, h2⟩
              · have : L.any (fun q => decide (q ∈ L2)) = false := List.any_eq_false.mpr (fun q hq => by simp; exact fun h2 => h ⟨q, hq, h2⟩)
                rw [this]
                simp [h]
            have HBT : Hid (∀ q : Nat, ¬ (∃ p ∈ L, p ∈ L2) → (spAt (takeS sa (nameS t2) t2 L2 id2 cl2).2.sp q).1 = (spAt (takeS sbb (nameS t) t L id cl).2.sp q).1) := fun q hc => by
              rw [HSA.out, HSBB.out, take_both HTX.out HTY.out (by rw [← HMM.out]; omega) hc, take_both HTY.out HTX.out (by rw [← HMM.out]; omega) (fun ⟨p, h1, h2⟩ => hc ⟨p, h2, h1⟩)]
              have : ((q : Int) ∈ L ∨ (q : Int) ∈ L2) ↔ ((q : Int) ∈ L2 ∨ (q : Int) ∈ L) := Or.comm
              simp only [this]
            have HSW : Hid (∀ wx, Below w5.heap.size w5 wx → wx.cell? ⟨bx, 0, none⟩ = some (.int .i64 0) ∧ wx.cell? ⟨bx, 1, none⟩ = some (.string (bs t)) ∧ wx.cell? ⟨bx, 2, none⟩ = some (.slice pa L.length pc) ∧ wx.cell? ⟨bx, 3, none⟩ = some (.int .i64 id) ∧ wx.cell? ⟨bx, 4, none⟩ = some (.int .i64 cl) ∧ wx.cell? ⟨bY, 0, none⟩ = some (.int .i64 0) ∧ wx.cell? ⟨bY, 1, none⟩ = some (.string (bs t2)) ∧ wx.cell? ⟨bY, 2, none⟩ = some (.slice pa2 L2.length pc2) ∧ wx.cell? ⟨bY, 3, none⟩ = some (.int .i64 id2) ∧ wx.cell? ⟨bY, 4, none⟩ = some (.int .i64 cl2)) := HS5.out
            have HPI : Hid (∀ wx, Below w5.heap.size w5 wx → Ints wx pa L.length L ∧ Ints wx pa2 L2.length L2) := fun wx hb => ⟨(HXI2.out _ (List.mem_singleton.mpr rfl)).2.1.below (HB5.out.trans (hb.mono HB5.out.size)), (HYI2.out _ (List.mem_singleton.mpr rfl)).2.1.below (HB5.out.trans (hb.mono HB5.out.size))⟩
            have HB11b : Hid (Below w5.heap.size w5 w11) := HA11.out.below
            have hsaX : sa.sp.length = st.sp.length := hsx
            have hsbX : sbb.sp.length = st.sp.length := hsy
            have hlL : L.length ≤ 20 := hf5.2
            have hlL2 : L2.length ≤ 20 := hf6.2
            obtain ⟨ht1, _⟩ := hf5
            obtain ⟨ht2, _⟩ := hf6
            have hwid := hwf.1
            have hwid2 := hwf2.1
            have hn1 := hly
            clear HTX HTY HSA HSBB HMM HNX HNY hx1 hy1 hbx1 hby1 HF1 HF2 HF3 HO2 HXI2 HYI2 HM2 HS2 HEND hwf hwf2
            go_wp2_with fail
            go_loopw [13, 14] (fun v13 v14 wr => ∃ i : Nat, v14 = .int .i64 i ∧ i ≤ L.length ∧ v13 = .bool ((L.take i).any (fun q => decide (q ∈ L2))) ∧ Hid (Quiet w11 wr)) (fun _ v14 _ => L.length - (intOf v14).toNat)
            case atStart => exact ⟨0, rfl, Nat.zero_le _, rfl, Quiet.refl _⟩
            case round =>
              obtain ⟨i, rfl, hi, rfl, HQ⟩ := hrel
              have HBr : Hid (Below w5.heap.size w5 wr) := HB11b.out.trans (HQ.out.below.mono HB11b.out.size)
              obtain ⟨x0, x1, x2, x3, x4, y0, y1, y2, y3, y4⟩ := HSW.out wr HBr.out
              by_cases hlt : i < L.length
              · obtain ⟨b, o, e1, c0⟩ := (HPI.out wr HBr.out).1.2 i hlt
                subst e1
                have HT : Hid ((L.take (i + 1)).any (fun q => decide (q ∈ L2)) = ((L.take i).any (fun q => decide (q ∈ L2)) || decide (ix L i ∈ L2))) := by
                  show _ = _
                  rw [List.take_succ_eq_append_getElem hlt, List.any_append, ix_get hlt]
                  simp
                have HIN : Hid (∀ q, Calls Tryd.prog 23 #[.slice pa2 L2.length pc2, .int .i64 (ix L i)] (wr.drewN q) fun e w' => e = .returned (.bool (decide (ix L i ∈ L2))) ∧ wr.drewN q = w') := fun q => in_any pa2 L2.length pc2 L2 (ix L i) _ (HPI.out wr HBr.out).2 (by omega)
                generalize ix L i = v at *
                generalize (L.take i).any (fun q => decide (q ∈ L2)) = ax at *
                cases ax
                · generalize decide (v ∈ L2) = dv at *
                  go_upto_region 15 with fail
                  go_quiet (exact Calls.quiet_of_same ((HIN.out _).mono fun e w' ⟨h1, h2⟩ => ⟨h1, h2.symm⟩))
                  go_wp2_with fail
                  go_roundw
                  case rel => exact ⟨i + 1, by go_num, hlt, by rw [HT.out]; simp, HQ.out.more nq⟩
                  case measure => simp [intOf]; omega
                · go_upto_region 15 with fail
                  go_quiet (fail)
                  go_wp2_with fail
                  go_roundw
                  case rel => exact ⟨i + 1, by go_num, hlt, by rw [HT.out]; simp, HQ.out.more nq⟩
                  case measure => simp [intOf]; omega
              · have hi' : i = L.length := by omega
                subst hi'
                rw [List.take_length, HCM.out]
                have HA12 := Lib.hid (HA11.out.next HQ.out.below)
                have HB12 := Lib.hid (HB11.out.next HQ.out.below)
                obtain ⟨wo, rfl⟩ : ∃ wo : World, wo = wr := ⟨_, rfl⟩
                have HDA := Lib.hid (do_take_any (do_any wo g M sb sa 0 t2 L2 id2 cl2 pa2 L2.length pc2 HA12.out.hs (by omega) (by omega) (by omega) (by omega) hwid2
                  (fun wy hu => (HPI.out wy (Upd.below HA12.out.below hu HA12.out.own)).2)))
                have hlsa : sa.last ≤ 39 := hlx
                clear HA11 HB11 HQ HCM
                go_wp2_with fail
                refine HDA.out.mono ?_
                rintro e w12 ⟨v12, rfl, hh, hu⟩
                have HB13 := Lib.hid (HB12.out.other HA12.out.hs hu HAP.out HA12.out.own)
                have HA13 := Lib.hid (HA12.out.step hh hu)
                have HDB := Lib.hid (do_take_any (do_any w12 g2 M2 sb2 sbb 0 t L id cl pa L.length pc HB13.out.hs (by omega) (by omega) (by omega) (by omega) hwid
                  (fun wy hu => (HPI.out wy (Upd.below HB13.out.below hu HB13.out.own)).1)))
                clear hh hu HDA HA12 HB12 HBr x0 x1 x2 x3 x4 y0 y1 y2 y3 y4
                obtain ⟨x0, x1, x2, x3, x4, y0, y1, y2, y3, y4⟩ := HSW.out w12 HA13.out.below
                go_wp2_with fail
                refine HDB.out.mono ?_
                rintro e w13 ⟨v13, rfl, hh, hu⟩
                have HA14 := Lib.hid (HA13.out.other HB13.out.hs hu (fun i hi hi2 => HAP.out i hi2 hi) HB13.out.own)
                have HB14 := Lib.hid (HB13.out.step hh hu)
                clear hh hu HDB HA13 HB13 x0 x1 x2 x3 x4 y0 y1 y2 y3 y4
                rw [HE1.out, HE2.out]
                by_cases hc : ∃ p ∈ L, p ∈ L2
                · rw [if_pos hc]
                  have hdc : decide (∃ p ∈ L, p ∈ L2) = true := by simpa using hc
                  rw [hdc]
                  clear hc hdc
                  go_wp2_with fail
                  go_ret
                  exact ⟨rfl, HEND2.out w13 HA14.out.below⟩
                · rw [if_neg hc]
                  have hdc : decide (∃ p ∈ L, p ∈ L2) = false := by simpa using hc
                  rw [hdc]
                  have HBQ := Lib.hid (fun q => HBT.out q hc)
                  clear hc hdc HBT
                  have hqa : (takeS sa (nameS t2) t2 L2 id2 cl2).2.sp.length = st.sp.length := by have := do_len (nm := nameS) (st := sa) (0, t2, L2, id2, cl2); rw [do_take] at this; rw [← hsaX]; exact this
                  have hqb : (takeS sbb (nameS t) t L id cl).2.sp.length = st.sp.length := by have := do_len (nm := nameS) (st := sbb) (0, t, L, id, cl); rw [do_take] at this; rw [← hsbX]; exact this
                  obtain ⟨ta, hta⟩ : ∃ ta, ta = (takeS sa (nameS t2) t2 L2 id2 cl2).2 := ⟨_, rfl⟩
                  obtain ⟨tb, htb⟩ : ∃ tb, tb = (takeS sbb (nameS t) t L id cl).2 := ⟨_, rfl⟩
                  rw [← hta] at hqa HA14 HBQ
                  rw [← htb] at hqb HB14 HBQ
                  obtain ⟨q, hq⟩ : ∃ q, q = st.sp.length := ⟨_, rfl⟩
                  rw [← hq] at hqa hqb hspl
                  have HQA := Lib.hid hqa
                  have HQB := Lib.hid hqb
                  clear hta htb hq hqa hqb hsaX hsbX HE1 HE2 hsx hsy
                  go_wp2_with fail
                  refine (hs_spaces HA14.out.hs (by rw [HQA.out]; omega)).mono ?_
                  rintro e w14 ⟨v14, rfl, hb14, _, hr14⟩
                  have HA15 := Lib.hid (HA14.out.next hb14)
                  have HB15 := Lib.hid (HB14.out.next hb14)
                  have RA := Lib.hid hr14
                  clear hb14 hr14 HA14 HB14
                  go_wp2_with fail
                  refine (hs_spaces HB15.out.hs (by rw [HQB.out]; omega)).mono ?_
                  rintro e w15 ⟨v15, rfl, hb15, _, hr15⟩
                  have HA16 := Lib.hid (HA15.out.next hb15)
                  have RA16 := RA.out.below hb15
                  obtain ⟨la, lac, rfl, ra0⟩ := RA16.recs
                  obtain ⟨lb, lbc, rfl, rb0⟩ := hr15.recs
                  rw [HQA.out] at ra0 ⊢
                  rw [HQB.out] at rb0 ⊢
                  have RAA := Lib.hid ra0
                  have RBB := Lib.hid rb0
                  clear hb15 hr15 RA16 RA ra0 rb0 HA15 HB15 HQA HQB
                  go_wp2_with fail
                  go_loopw [23] (fun v23 wr => ∃ j : Nat, v23 = .int .i64 j ∧ j ≤ q ∧ Hid (Quiet w15 wr)) (fun v23 _ => q - (intOf v23).toNat)
                  case atStart => exact ⟨0, rfl, Nat.zero_le _, Quiet.refl _⟩
                  case round =>
                    obtain ⟨j, rfl, hj, HQ⟩ := hrel
                    by_cases hjq : j < q
                    · obtain ⟨b1, o1, rfl, x0, x1⟩ := sp_at2 (RAA.out.below HQ.out.below) j hjq
                      obtain ⟨b2, o2, rfl, y0, y1⟩ := sp_at2 (RBB.out.below HQ.out.below) j hjq
                      rw [HBQ.out j] at x0
                      generalize (spAt tb.sp j).1 = v at *
                      clear x1 y1
                      go_upto_region 27 with fail
                      go_quiet (fail)
                      go_wp2_with fail
                      go_roundw
                      case rel => exact ⟨j + 1, by go_num, by omega, HQ.out.more nq⟩
                      case measure => simp [intOf]; omega
                    · have hj' : j = q := by omega
                      subst hj'
                      go_wp2_with fail
                      go_ret
                      exact ⟨rfl, HEND2.out wr (HA16.out.next HQ.out.below).below⟩
          · have hby2 : ((ny : Int) != (m : Int) + 1) = true := by simp; omega
            have hby3 : ((ny : Int) == (m : Int) + 1) = false := by simp; omega
            go_wp2_with fail
            go_ret
            exact ⟨rfl, HEND2.out w11 HA11.out.below⟩
        · have hbx2 : ((nx : Int) != (m : Int) + 1) = true := by simp; omega
          have hbx3 : ((nx : Int) == (m : Int) + 1) = false := by simp; omega
          go_wp2_with fail
          go_ret
          exact ⟨rfl, HEND2.out w10 HA10.out.below⟩
end Go.Proofs.YtkdbenoleendcaaDoor
