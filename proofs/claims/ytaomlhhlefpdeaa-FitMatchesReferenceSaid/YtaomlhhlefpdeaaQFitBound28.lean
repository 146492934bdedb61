/- foyerref22.Best: the walk. -/
import Derived.Test.YtaomlhhlefpdeaaQFitBound01
import Derived.Test.YtaomlhhlefpdeaaQFitBound27
import Derived.ArgAppend

namespace Go.Proofs.Ytaomlhhlefpdeaa
open Go.RowKit Go.IntWalk

theorem append_none (w : World) (b : Nat) (ra : Option Addr) (c : Nat) : (Builtin.append_ #[22, 22] 22 #[.slice (some ⟨b, 0, none⟩) 0 0, .slice ra 0 c]).run Try.prog w = .ok (.slice (some ⟨b, 0, none⟩) 0 0) w := by
  obtain ⟨i0, hi, hz0, hz1, hz2⟩ := info_parts Try_infoInt
  cases ra with
  | none => simp [Builtin.append_, run_underlying Try.underlying22, sizeOf, typeInfo, hi, Builtin.lenOf, Builtin.firstCells, loadCells, loadCellsFrom, storeCells]
  | some ad => simp [Builtin.append_, run_underlying Try.underlying22, sizeOf, typeInfo, hi, Builtin.lenOf, Builtin.firstCells, loadCells, loadCellsFrom, storeCells]

/-- append of a slice to an empty one, in any world. -/
theorem copy_at (w : World) (b : Nat) (ra : Option Addr) (n c : Nat) (L : List Int) (hn : n ≤ 100000) (hL : Ints w ra n L) : ∃ la lc w', (Builtin.append_ #[22, 22] 22 #[.slice (some ⟨b, 0, none⟩) 0 0, .slice ra n c]).run Try.prog w = .ok (.slice la n lc) w' ∧
    Below w.heap.size w w' ∧ OwnInts w' 0 la n L := by
  by_cases h0 : n = 0
  · subst h0
    exact ⟨_, _, w, append_none w b ra c, Below.refl _ _, hL.1, fun h => absurd h (by omega)⟩
  · obtain ⟨i0, hi, hz0, hz1, hz2⟩ := info_parts Try_infoInt
    obtain ⟨ab, ao, rfl, _⟩ := hL.2 0 (by omega)
    have hnews : ∀ (j : Nat) (u : Value), (L.map (Value.int .i64))[j]? = some u → w.cell? ((⟨ab, ao, none⟩ : Addr).add j) = some u := by
      intro j u hj
      have hjn : j < n := by
        rw [← hL.1]
        rcases Nat.lt_or_ge j L.length with h | h
        · exact h
        · rw [List.getElem?_eq_none (by simpa using h)] at hj; simp at hj
      obtain ⟨b, o, e, hcell⟩ := hL.2 j hjn
      simp only [Option.some.injEq] at e
      rw [e]
      have e2 : (⟨b, o, none⟩ : Addr).add j = ⟨b, o + j, none⟩ := by unfold Addr.add; split <;> simp_all
      rw [e2, hcell]
      have hjl : j < L.length := by rw [hL.1]; exact hjn
      simp [hjl] at hj
      rw [← hj]
      simp [ix, List.getD_eq_getElem?_getD, hjl]
    obtain ⟨v', w', hr, h2, h3⟩ := run_append_arg_grows (P := Try.prog) w 22 22 3 i0 (.int .i64 0) 1 8 Try.underlying22 hi hz0 hz1 hz2 rfl (by decide) ⟨b, 0, none⟩ 0 0 [] rfl (fun j u hj => by simp at hj) ⟨ab, ao, none⟩ n c (L.map (Value.int .i64))
      (by simp [hL.1]) hnews (by omega) (by unfold maxLen; omega) (by omega)
    obtain ⟨la, lc, rfl, ho⟩ := OwnInts.of_row (L := L) (by simpa using h2)
    exact ⟨la, lc, w', hr, ⟨h3.os, h3.tape, h3.output, h3.size, fun i hi => h3.block i hi (by simp)⟩, ho.1, fun h => by obtain ⟨g, e, _, r⟩ := ho.2 h; exact ⟨g, e, Nat.zero_le _, r⟩⟩

/-- An append whose run is known, as a step of a region. -/
theorem step_run_append {P : Program} {ops : Array Oper} {o : Oper} {a : Act} {w w' : World} {K : Act → World → Prop} {Q : Exit → Act → World → Prop} {E : Prop} (hg : o.guard = none) (s x : Operand) (t : TypeId)
    (ho : o.op = .call { callee := .builtin .append, args := #[s, x], argTypes := #[t, t] }) {v u res : Value} (ty : TypeId) (hty : o.type = ty)
    (hr : (Builtin.append_ #[t, t] ty #[v, u]).run P w = .ok res w') (hs : a.eval s = v) (hx : a.eval x = u) (h : K (a.put o.dst res) w') : if Region.wanted o (yielded ops a.tmps) = true then Oper.wp P o a w K Q else E := by
  have hw : Region.wanted o (yielded ops a.tmps) = true := by simp [Region.wanted, hg]
  rw [if_pos hw]
  unfold Oper.wp execOp
  simp only [ho, hty, resolve, invoke, builtin, Sem.run_bind, Sem.run_pure, Result.andThen_ok, List.map_toArray, List.map_cons, List.map_nil, hs, hx, hr]
  exact h

/-- What each of the three effects leaves. -/
def FB (n : Nat) (R : List Int) (k : Nat) (u : Value) (w : World) : Prop :=
  match k with
  | 0 => ∃ b, u = .slice (some ⟨b, 0, none⟩) 0 0
  | 1 => ∃ la lc, u = .slice la n lc ∧ OwnInts w 0 la n R
  | _ => ∃ b, u = .slice (some ⟨b, 0, none⟩) n n ∧ BoolRow w b 4 (List.replicate n false)

theorem FB.below {n : Nat} {R : List Int} (k : Nat) (u : Value) (w w' : World) (h : FB n R k u w) (hb : Below w.heap.size w w') : FB n R k u w' := by
  unfold FB at *
  match k with
  | 0 => exact h
  | 1 =>
    obtain ⟨la, lc, e, h1, h2⟩ := h
    exact ⟨la, lc, e, h1, fun hn => by obtain ⟨g, e, hg, r⟩ := h2 hn; exact ⟨g, e, hg, r.below hb⟩⟩
  | k + 2 => obtain ⟨b, e, r⟩ := h; exact ⟨b, e, r.of_heap (hb.block _ r.lt)⟩

theorem keep3 {w w' : World} {b1 b2 b3 o1 o2 o3 : Nat} {v1 v2 v3 : Value} (hb : Below w.heap.size w w') (h : w.cell? ⟨b1, o1, none⟩ = some v1 ∧ w.cell? ⟨b2, o2, none⟩ = some v2 ∧ w.cell? ⟨b3, o3, none⟩ = some v3) :
    w'.cell? ⟨b1, o1, none⟩ = some v1 ∧ w'.cell? ⟨b2, o2, none⟩ = some v2 ∧ w'.cell? ⟨b3, o3, none⟩ = some v3 := ⟨Below.cell_of hb h.1, Below.cell_of hb h.2.1, Below.cell_of hb h.2.2⟩

/-- The greatest value of a permitted packing. -/
def bestS (single : Bool) (R : List Int) (G : List (Int × Int)) : Int := bestF single G G.length 0 R (List.replicate R.length false)

set_option maxRecDepth 10000 in
set_option maxHeartbeats 3200000 in
theorem Best_any (ra ga : Option Addr) (n c m d : Nat) (single : Bool) (R : List Int) (G : List (Int × Int)) (w : World) (hn : n ≤ 4000) (hm : m ≤ 4000) (hR : Ints w ra n R) (hG : Pairs w ga m G) (hv : ValuesOk G) (hRb : ∀ r, r < n → 0 ≤ ix R r ∧ ix R r ≤ 4000) :
    Calls Try.prog 32 #[.agg #[.slice ra n c, .slice ga m d, .bool single]] w fun e w' => e = .returned (.int .i64 (bestS single R G)) ∧ Below w.heap.size w w' := by
  obtain ⟨arr, hs, hz, hmk⟩ := make_bools n hn
  have HMK := Lib.hid hmk
  have HROW : Hid (∀ W : World, BoolRow (W.alloc (.cells arr 4)) W.heap.size 4 (List.replicate n false)) := fun W => BoolRow.made rfl hs hz
  clear hs hz hmk
  have hb0 : Below w.heap.size w (w.alloc (.cells #[.slice ra n c, .slice ga m d, .bool single] 25)) := (Below.refl _ _).alloc (Nat.le_refl _) _
  have HBX := Lib.hid (Box.new (w := w) (vs := #[.slice ra n c, .slice ga m d, .bool single]) (T := 25) rfl)
  have HARG : Hid (∀ w3 : World, Below (w.alloc (.cells #[.slice ra n c, .slice ga m d, .bool single] 25)).drew.heap.size (w.alloc (.cells #[.slice ra n c, .slice ga m d, .bool single] 25)).drew w3 → Ints w3 ra n R ∧ Pairs w3 ga m G ∧ Below w.heap.size w w3) := fun w3 h3 =>
    have hh := hb0.trans (((Below.refl _ _).drew.trans h3).mono hb0.size)
    ⟨hR.below hh, hG.below hh, hh⟩
  have HV := Lib.hid hv; have HRB := Lib.hid hRb; have HRL := Lib.hid hR.1; have HGL := Lib.hid hG.1
  clear hR hG hv hRb
  go_enter Try.func32, Try.ntmps32
  go_upto_region 1 with fail
  generalize (w.alloc (.cells #[.slice ra n c, .slice ga m d, .bool single] 25)) = w1 at *
  have x0 := HBX.out.cell 0
  have x1 := HBX.out.cell 1
  have x2 := HBX.out.cell 2
  simp only [List.getElem?_toArray, List.getElem?_cons_zero, List.getElem?_cons_succ] at x0 x1 x2
  refine wp_region_held_drew (S := fun w' => w'.cell? ⟨w.heap.size, 0, none⟩ = some (.slice ra n c) ∧ w'.cell? ⟨w.heap.size, 1, none⟩ = some (.slice ga m d) ∧ w'.cell? ⟨w.heap.size, 2, none⟩ = some (.bool single)) (by kernel_rfl) ⟨x0, x1, x2⟩ (fun hHeld => ?_)
  refine take_at (i := 0) (v := ?_) 3 rfl rfl (by kernel_rfl) (by kernel_rfl) (by kernel_rfl) (fun _ _ _ h => h) (Or.inl ⟨by rfl, ?_⟩) (by assumption) ?_
  rotate_left
  · intro w hSw; go_simp <;> with_reducible rfl
  try simp only [Act.put, List.setIfInBounds_toArray, List.set_cons_zero, List.set_cons_succ]
  refine take_at (i := 2) (v := ?_) 5 rfl rfl (by kernel_rfl) (by kernel_rfl) (by kernel_rfl) (fun _ _ _ h => h) (Or.inl ⟨by rfl, ?_⟩) (by assumption) ?_
  rotate_left
  · intro w hSw; go_simp <;> with_reducible rfl
  try simp only [Act.put, List.setIfInBounds_toArray, List.set_cons_zero, List.set_cons_succ]
  refine take_at (i := 3) (v := ?_) 6 rfl rfl (by kernel_rfl) (by kernel_rfl) (by kernel_rfl) (fun _ _ _ h => h) (Or.inl ⟨by rfl, ?_⟩) (by assumption) ?_
  rotate_left
  · intro w hSw; go_simp <;> with_reducible rfl
  try simp only [Act.put, List.setIfInBounds_toArray, List.set_cons_zero, List.set_cons_succ]
  refine take_at (i := 5) (v := ?_) 8 rfl rfl (by kernel_rfl) (by kernel_rfl) (by kernel_rfl) (fun _ _ _ h => h) (Or.inl ⟨by rfl, ?_⟩) (by assumption) ?_
  rotate_left
  · intro w hSw; go_simp <;> with_reducible rfl
  try simp only [Act.put, List.setIfInBounds_toArray, List.set_cons_zero, List.set_cons_succ]
  refine take_at (i := 6) (v := ?_) 9 rfl rfl (by kernel_rfl) (by kernel_rfl) (by kernel_rfl) (fun _ _ _ h => h) (Or.inl ⟨by rfl, ?_⟩) (by assumption) ?_
  rotate_left
  · intro w hSw; go_simp <;> with_reducible rfl
  try simp only [Act.put, List.setIfInBounds_toArray, List.set_cons_zero, List.set_cons_succ]
  refine take_at (i := 7) (v := ?_) 10 rfl rfl (by kernel_rfl) (by kernel_rfl) (by kernel_rfl) (fun _ _ _ h => h) (Or.inl ⟨by rfl, ?_⟩) (by assumption) ?_
  rotate_left
  · intro w hSw; go_simp <;> with_reducible rfl
  try simp only [Act.put, List.setIfInBounds_toArray, List.set_cons_zero, List.set_cons_succ]
  clear x0 x1 x2
  refine wpAnyH_effects0 [(1, 4), (4, 7), (8, 11)] [[], [0], []] (FB n R) (fun _ _ => none) _ _ 2 _ ?dist ?ready FB.below hHeld ?step ?fin
  case dist => decide
  case ready => kernel_rfl
  case step =>
    intro k e v w3 hk3 he hSw hbw3 hneed
    rcases k with _ | _ | _ | k
    all_goals simp only [List.getElem?_cons_zero, List.getElem?_cons_succ, List.getElem?_nil, Option.some.injEq, reduceCtorEq] at he
    all_goals subst he
    · refine wpOp_step rfl (fun K' hK => ?_)
      simp only [putAll, Act.put, List.setIfInBounds_toArray, List.set_cons_zero, List.set_cons_succ]
      go_simp
      have hb4 : Below w3.heap.size w3 (w3.alloc (.cells #[] 3)) := (Below.refl _ _).alloc (Nat.le_refl _) _
      exact hK _ _ ⟨.slice (some ⟨w3.heap.size, 0, none⟩) 0 0, by simp only [putAll, Act.put, List.setIfInBounds_toArray, List.set_cons_zero, List.set_cons_succ], keep3 hb4 hSw, hb4, ⟨_, rfl⟩, fun b hb => by simp at hb⟩
    · obtain ⟨b, hv0⟩ : FB n R 0 (v 0) w3 := hneed 0 (by simp)
      refine wpOp_step rfl (fun K' hK => ?_)
      obtain ⟨la, lc, w4, hcp, hb4, ho⟩ := copy_at w3 b ra n c R (Nat.le_trans hn (by decide)) (HARG.out w3 hbw3).1
      refine step_run_append rfl _ _ 22 rfl 22 rfl hcp ?_ rfl ?_
      · simp only [putAll, Act.put, List.setIfInBounds_toArray, List.set_cons_zero, List.set_cons_succ]
        exact hv0
      · exact hK _ _ ⟨.slice la n lc, rfl, keep3 hb4 hSw, hb4, ⟨_, _, rfl, ho⟩, fun b hb => by simp at hb⟩
    · have hmk := HMK.out
      refine wpOp_step rfl (fun K' hK => ?_)
      simp only [putAll, Act.put, List.setIfInBounds_toArray, List.set_cons_zero, List.set_cons_succ]
      go_simp
      have hb4 : Below w3.heap.size w3 (w3.alloc (.cells arr 4)) := (Below.refl _ _).alloc (Nat.le_refl _) _
      exact hK _ _ ⟨.slice (some ⟨w3.heap.size, 0, none⟩) n n, by simp only [putAll, Act.put, List.setIfInBounds_toArray, List.set_cons_zero, List.set_cons_succ], keep3 hb4 hSw, hb4, ⟨_, rfl, HROW.out w3⟩, fun b hb => by simp at hb⟩
  case fin =>
    intro v w4 hS4 hI
    obtain ⟨la, lc, f1, F1⟩ : FB n R 1 (v 1) w4 := hI.fact 1 (by decide) rfl
    obtain ⟨ub, f2, F2⟩ : FB n R 2 (v 2) w4 := hI.fact 2 (by decide) rfl
    simp only [putAll, Act.put, List.setIfInBounds_toArray, List.set_cons_zero, List.set_cons_succ, Nat.zero_add, Nat.reduceAdd, f1, f2]
    have HA4 := Lib.hid (HARG.out w4 hI.below)
    have HL4 := Lib.hid F1.ints
    have HU4 : Hid (Bools w4 (some ⟨ub, 0, none⟩) n (List.replicate n false)) := by have h := F2.bools; rw [List.length_replicate] at h; exact h
    clear f1 f2 F1 F2 hI HMK HROW HARG hHeld
    refine wpAnyH_ready (rs := [9]) (by kernel_rfl) (by simp) ?_
    refine AllReadyH.cons rfl (fun K' hK => ?_) AllReadyH.nil
    go_simp
    refine (best_any ra ga n c m d single G hn hm HV.out HGL.out m 0 la (some ⟨ub, 0, none⟩) lc n R (List.replicate n false) w4 (Nat.zero_add m) HA4.out.2.1 HL4.out HU4.out HRB.out).mono ?_
    rintro e w5 ⟨rfl, hb5⟩
    go_simp
    refine hK.out _ _ (keep3 hb5 hS4) (fun hHeld => ?_)
    clear hK K'
    refine take_at (i := 10) (v := ?_) 2 rfl rfl (by kernel_rfl) (by kernel_rfl) (by kernel_rfl) (fun _ _ _ h => h) (Or.inl ⟨by rfl, ?_⟩) (by assumption) ?_
    rotate_left
    · intro w hSw; go_simp <;> with_reducible rfl
    try simp only [Act.put, List.setIfInBounds_toArray, List.set_cons_zero, List.set_cons_succ]
    refine wpAnyH_done (by kernel_rfl) ?_ _
    clear hHeld hS4
    have HFIN : Hid (bestF single G m 0 R (List.replicate n false) = bestS single R G) := by show _ = _; rw [bestS, HGL.out, HRL.out]
    go_wp2
    go_ret
    exact ⟨ret_int HFIN.out, HA4.out.2.2.trans (hb5.mono HA4.out.2.2.size)⟩
end Go.Proofs.Ytaomlhhlefpdeaa
