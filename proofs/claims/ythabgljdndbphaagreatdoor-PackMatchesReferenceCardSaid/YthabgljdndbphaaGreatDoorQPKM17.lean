/- foyerref22.Best: the walk; FitExact, plain: bestS is the greatest value of a permitted packing, and the steps of Prove are right exactly for it. -/
import Derived.Test.YthabgljdndbphaaGreatDoorQPKM13
import Derived.Test.YthabgljdndbphaaGreatDoorQPKM14
import Derived.Test.YthabgljdndbphaaGreatDoorQPKM15
import Derived.Test.YthabgljdndbphaaGreatDoorQPKM16
import Derived.ArgAppend

set_option linter.unusedVariables false
set_option linter.unusedSimpArgs false
namespace Go.Proofs.YthabgljdndbphaaGreatDoor
open Go.RowKit Go.IntWalk

theorem append_none (w : World) (b : Nat) (ra : Option Addr) (c : Nat) : (Builtin.append_ #[22, 22] 22 #[.slice (some ⟨b, 0, none⟩) 0 0, .slice ra 0 c]).run Tryz.prog w = .ok (.slice (some ⟨b, 0, none⟩) 0 0) w := by
 obtain ⟨i0, hi, hz0, hz1, hz2⟩ := info_parts Tryz_infoInt
 cases ra with
 | none => simp [Builtin.append_, run_underlying Tryz.underlying22, sizeOf, typeInfo, hi, Builtin.lenOf, Builtin.firstCells, loadCells, loadCellsFrom, storeCells]
 | some ad => simp [Builtin.append_, run_underlying Tryz.underlying22, sizeOf, typeInfo, hi, Builtin.lenOf, Builtin.firstCells, loadCells, loadCellsFrom, storeCells]

/-- append of a slice to an empty one, in any world. -/
theorem copy_at (w : World) (b : Nat) (ra : Option Addr) (n c : Nat) (L : List Int) (hn : n ≤ 100000) (hL : Ints w ra n L) : ∃ la lc w', (Builtin.append_ #[22, 22] 22 #[.slice (some ⟨b, 0, none⟩) 0 0, .slice ra n c]).run Tryz.prog w = .ok (.slice la n lc) w' ∧
  Below w.heap.size w w' ∧ OwnInts w' 0 la n L := by
 by_cases h0 : n = 0
 ·
  subst h0
  exact ⟨_, _, w, append_none w b ra c, Below.refl _ _, hL.1, fun h => absurd h (by omega)⟩
 ·
  obtain ⟨i0, hi, hz0, hz1, hz2⟩ := info_parts Tryz_infoInt
  obtain ⟨ab, ao, rfl, _⟩ := hL.2 0 (by omega)
  have hnews : ∀ (j : Nat) (u : Value), (L.map (Value.int .i64))[j]? = some u → w.cell? ((⟨ab, ao, none⟩ : Addr).add j) = some u := by
   intro j u hj
   have hjn : j < n := by
    rw [← hL.1]
    rcases Nat.lt_or_ge j L.length with h | h
    ·
     exact h
    ·
     rw [List.getElem?_eq_none (by simpa using h)] at hj; simp at hj
   obtain ⟨b, o, e, hcell⟩ := hL.2 j hjn
   simp only [Option.some.injEq] at e
   rw [e]
   have e2 : (⟨b, o, none⟩ : Addr).add j = ⟨b, o + j, none⟩ := by unfold Addr.add; split <;> simp_all
   rw [e2, hcell]
   have hjl : j < L.length := by rw [hL.1]; exact hjn
   simp [hjl] at hj
   rw [← hj]
   simp [ix, List.getD_eq_getElem?_getD, hjl]
  obtain ⟨v', w', hr, h2, h3⟩ := run_append_arg_grows (P := Tryz.prog) w 22 22 3 i0 (.int .i64 0) 1 8 Tryz.underlying22 hi hz0 hz1 hz2 rfl (by decide) ⟨b, 0, none⟩ 0 0 [] rfl (fun j u hj => by simp at hj) ⟨ab, ao, none⟩ n c (L.map (Value.int .i64))
   (by simp [hL.1]) hnews (by omega) (by unfold maxLen; omega) (by omega)
  obtain ⟨la, lc, rfl, ho⟩ := OwnInts.of_row (L := L) (by simpa using h2)
  exact ⟨la, lc, w', hr, ⟨h3.os, h3.tape, h3.output, h3.size, fun i hi => h3.block i hi (by simp)⟩, ho.1, fun h => by obtain ⟨g, e, _, r⟩ := ho.2 h; exact ⟨g, e, Nat.zero_le _, r⟩⟩

/-- An append whose run is known, as a step of a region. -/
theorem step_run_append {P : Program} {ops : Array Oper} {o : Oper} {a : Act} {w w' : World} {K : Act → World → Prop} {Q : Exit → Act → World → Prop} {E : Prop} (hg : o.guard = none) (s x : Operand) (t : TypeId)
  (ho : o.op = .call { callee := .builtin .append, args := #[s, x], argTypes := #[t, t] }) {v u res : Value} (ty : TypeId) (hty : o.type = ty)
  (hr : (Builtin.append_ #[t, t] ty #[v, u]).run P w = .ok res w') (hs : a.eval s = v) (hx : a.eval x = u) (h : K (a.put o.dst res) w') : if Region.wanted o (yielded ops a.tmps) = true then Oper.wp P o a w K Q else E := by
 have hw : Region.wanted o (yielded ops a.tmps) = true := by simp [Region.wanted, hg]
 rw [if_pos hw]
 unfold Oper.wp execOp
 simp only [ho, hty, resolve, invoke, builtin, Sem.run_bind, Sem.run_pure, Result.andThen_ok, List.map_toArray, List.map_cons, List.map_nil, hs, hx, hr]
 exact h

/-- What each of the three effects leaves. -/
def FB (n : Nat) (R : List Int) (k : Nat) (u : Value) (w : World) : Prop :=
 match k with
 | 0 => ∃ b, u = .slice (some ⟨b, 0, none⟩) 0 0
 | 1 => ∃ la lc, u = .slice la n lc ∧ OwnInts w 0 la n R
 | _ => ∃ b, u = .slice (some ⟨b, 0, none⟩) n n ∧ BoolRow w b 4 (List.replicate n false)

theorem FB.below {n : Nat} {R : List Int} (k : Nat) (u : Value) (w w' : World) (h : FB n R k u w) (hb : Below w.heap.size w w') : FB n R k u w' := by
 unfold FB at *
 match k with
 | 0 => exact h
 | 1 =>
  obtain ⟨la, lc, e, h1, h2⟩ := h
  exact ⟨la, lc, e, h1, fun hn => by obtain ⟨g, e, hg, r⟩ := h2 hn; exact ⟨g, e, hg, r.below hb⟩⟩
 | k + 2 => obtain ⟨b, e, r⟩ := h; exact ⟨b, e, r.of_heap (hb.block _ r.lt)⟩

theorem keep3 {w w' : World} {b1 b2 b3 o1 o2 o3 : Nat} {v1 v2 v3 : Value} (hb : Below w.heap.size w w') (h : w.cell? ⟨b1, o1, none⟩ = some v1 ∧ w.cell? ⟨b2, o2, none⟩ = some v2 ∧ w.cell? ⟨b3, o3, none⟩ = some v3) :
  w'.cell? ⟨b1, o1, none⟩ = some v1 ∧ w'.cell? ⟨b2, o2, none⟩ = some v2 ∧ w'.cell? ⟨b3, o3, none⟩ = some v3 := ⟨Below.cell_of hb h.1, Below.cell_of hb h.2.1, Below.cell_of hb h.2.2⟩

/-- The greatest value of a permitted packing. -/
def bestS (single : Bool) (R : List Int) (G : List (Int × Int)) : Int := bestF single G G.length 0 R (List.replicate R.length false)

set_option maxRecDepth 10000 in
set_option maxHeartbeats 3200000 in
theorem Best_any (ra ga : Option Addr) (n c m d : Nat) (single : Bool) (R : List Int) (G : List (Int × Int)) (w : World) (hn : n ≤ 4000) (hm : m ≤ 4000) (hR : Ints w ra n R) (hG : Pairs w ga m G) (hv : ValuesOk G) (hRb : ∀ r, r < n → 0 ≤ ix R r ∧ ix R r ≤ 4000) :
  Calls Tryz.prog 27 #[.agg #[.slice ra n c, .slice ga m d, .bool single]] w fun e w' => e = .returned (.int .i64 (bestS single R G)) ∧ Below w.heap.size w w' := by
 obtain ⟨arr, hs, hz, hmk⟩ := make_bools n hn
 have HMK := Lib.hid hmk
 have HROW : Hid (∀ W : World, BoolRow (W.alloc (.cells arr 4)) W.heap.size 4 (List.replicate n false)) := fun W => BoolRow.made rfl hs hz
 clear hs hz hmk
 have hb0 : Below w.heap.size w (w.alloc (.cells #[.slice ra n c, .slice ga m d, .bool single] 25)) := (Below.refl _ _).alloc (Nat.le_refl _) _
 have HBX := Lib.hid (Box.new (w := w) (vs := #[.slice ra n c, .slice ga m d, .bool single]) (T := 25) rfl)
 have HARG : Hid (∀ w3 : World, Below (w.alloc (.cells #[.slice ra n c, .slice ga m d, .bool single] 25)).drew.heap.size (w.alloc (.cells #[.slice ra n c, .slice ga m d, .bool single] 25)).drew w3 → Ints w3 ra n R ∧ Pairs w3 ga m G ∧ Below w.heap.size w w3) := fun w3 h3 =>
  have hh := hb0.trans (((Below.refl _ _).drew.trans h3).mono hb0.size)
  ⟨hR.below hh, hG.below hh, hh⟩
 have HV := Lib.hid hv; have HRB := Lib.hid hRb; have HRL := Lib.hid hR.1; have HGL := Lib.hid hG.1
 clear hR hG hv hRb
 go_enter Tryz.func27, Tryz.ntmps27
 go_upto_region 1 with fail
 generalize (w.alloc (.cells #[.slice ra n c, .slice ga m d, .bool single] 25)) = w1 at *
 have x0 := HBX.out.cell 0
 have x1 := HBX.out.cell 1
 have x2 := HBX.out.cell 2
 simp only [List.getElem?_toArray, List.getElem?_cons_zero, List.getElem?_cons_succ] at x0 x1 x2
 refine wp_region_held_drew (S := fun w' => w'.cell? ⟨w.heap.size, 0, none⟩ = some (.slice ra n c) ∧ w'.cell? ⟨w.heap.size, 1, none⟩ = some (.slice ga m d) ∧ w'.cell? ⟨w.heap.size, 2, none⟩ = some (.bool single)) (by kernel_rfl) ⟨x0, x1, x2⟩ (fun hHeld => ?_)
 refine take_at (i := 0) (v := ?_) 3 rfl rfl (by kernel_rfl) (by kernel_rfl) (by kernel_rfl) (fun _ _ _ h => h) (Or.inl ⟨by rfl, ?_⟩) (by assumption) ?_
 rotate_left
 ·
  intro w hSw; go_simp <;> with_reducible rfl
 try simp only [Act.put, List.setIfInBounds_toArray, List.set_cons_zero, List.set_cons_succ]
 refine take_at (i := 2) (v := ?_) 5 rfl rfl (by kernel_rfl) (by kernel_rfl) (by kernel_rfl) (fun _ _ _ h => h) (Or.inl ⟨by rfl, ?_⟩) (by assumption) ?_
 rotate_left
 ·
  intro w hSw; go_simp <;> with_reducible rfl
 try simp only [Act.put, List.setIfInBounds_toArray, List.set_cons_zero, List.set_cons_succ]
 refine take_at (i := 3) (v := ?_) 6 rfl rfl (by kernel_rfl) (by kernel_rfl) (by kernel_rfl) (fun _ _ _ h => h) (Or.inl ⟨by rfl, ?_⟩) (by assumption) ?_
 rotate_left
 ·
  intro w hSw; go_simp <;> with_reducible rfl
 try simp only [Act.put, List.setIfInBounds_toArray, List.set_cons_zero, List.set_cons_succ]
 refine take_at (i := 5) (v := ?_) 8 rfl rfl (by kernel_rfl) (by kernel_rfl) (by kernel_rfl) (fun _ _ _ h => h) (Or.inl ⟨by rfl, ?_⟩) (by assumption) ?_
 rotate_left
 ·
  intro w hSw; go_simp <;> with_reducible rfl
 try simp only [Act.put, List.setIfInBounds_toArray, List.set_cons_zero, List.set_cons_succ]
 refine take_at (i := 6) (v := ?_) 9 rfl rfl (by kernel_rfl) (by kernel_rfl) (by kernel_rfl) (fun _ _ _ h => h) (Or.inl ⟨by rfl, ?_⟩) (by assumption) ?_
 rotate_left
 ·
  intro w hSw; go_simp <;> with_reducible rfl
 try simp only [Act.put, List.setIfInBounds_toArray, List.set_cons_zero, List.set_cons_succ]
 refine take_at (i := 7) (v := ?_) 10 rfl rfl (by kernel_rfl) (by kernel_rfl) (by kernel_rfl) (fun _ _ _ h => h) (Or.inl ⟨by rfl, ?_⟩) (by assumption) ?_
 rotate_left
 ·
  intro w hSw; go_simp <;> with_reducible rfl
 try simp only [Act.put, List.setIfInBounds_toArray, List.set_cons_zero, List.set_cons_succ]
 clear x0 x1 x2
 refine wpAnyH_effects0 [(1, 4), (4, 7), (8, 11)] [[], [0], []] (FB n R) (fun _ _ => none) _ _ 2 _ ?dist ?ready FB.below hHeld ?step ?fin
 case dist => decide
 case ready => kernel_rfl
 case step =>
  intro k e v w3 hk3 he hSw hbw3 hneed
  rcases k with _ | _ | _ | k
  all_goals simp only [List.getElem?_cons_zero, List.getElem?_cons_succ, List.getElem?_nil, Option.some.injEq, reduceCtorEq] at he
  all_goals subst he
  ·
   refine wpOp_step rfl (fun K' hK => ?_)
   simp only [putAll, Act.put, List.setIfInBounds_toArray, List.set_cons_zero, List.set_cons_succ]
   go_simp
   have hb4 : Below w3.heap.size w3 (w3.alloc (.cells #[] 3)) := (Below.refl _ _).alloc (Nat.le_refl _) _
   exact hK _ _ ⟨.slice (some ⟨w3.heap.size, 0, none⟩) 0 0, by simp only [putAll, Act.put, List.setIfInBounds_toArray, List.set_cons_zero, List.set_cons_succ], keep3 hb4 hSw, hb4, ⟨_, rfl⟩, fun b hb => by simp at hb⟩
  ·
   obtain ⟨b, hv0⟩ : FB n R 0 (v 0) w3 := hneed 0 (by simp)
   refine wpOp_step rfl (fun K' hK => ?_)
   obtain ⟨la, lc, w4, hcp, hb4, ho⟩ := copy_at w3 b ra n c R (Nat.le_trans hn (by decide)) (HARG.out w3 hbw3).1
   refine step_run_append rfl _ _ 22 rfl 22 rfl hcp ?_ rfl ?_
   ·
    simp only [putAll, Act.put, List.setIfInBounds_toArray, List.set_cons_zero, List.set_cons_succ]
    exact hv0
   ·
    exact hK _ _ ⟨.slice la n lc, rfl, keep3 hb4 hSw, hb4, ⟨_, _, rfl, ho⟩, fun b hb => by simp at hb⟩
  ·
   have hmk := HMK.out
   refine wpOp_step rfl (fun K' hK => ?_)
   simp only [putAll, Act.put, List.setIfInBounds_toArray, List.set_cons_zero, List.set_cons_succ]
   go_simp
   have hb4 : Below w3.heap.size w3 (w3.alloc (.cells arr 4)) := (Below.refl _ _).alloc (Nat.le_refl _) _
   exact hK _ _ ⟨.slice (some ⟨w3.heap.size, 0, none⟩) n n, by simp only [putAll, Act.put, List.setIfInBounds_toArray, List.set_cons_zero, List.set_cons_succ], keep3 hb4 hSw, hb4, ⟨_, rfl, HROW.out w3⟩, fun b hb => by simp at hb⟩
 case fin =>
  intro v w4 hS4 hI
  obtain ⟨la, lc, f1, F1⟩ : FB n R 1 (v 1) w4 := hI.fact 1 (by decide) rfl
  obtain ⟨ub, f2, F2⟩ : FB n R 2 (v 2) w4 := hI.fact 2 (by decide) rfl
  simp only [putAll, Act.put, List.setIfInBounds_toArray, List.set_cons_zero, List.set_cons_succ, Nat.zero_add, Nat.reduceAdd, f1, f2]
  have HA4 := Lib.hid (HARG.out w4 hI.below)
  have HL4 := Lib.hid F1.ints
  have HU4 : Hid (Bools w4 (some ⟨ub, 0, none⟩) n (List.replicate n false)) := by have h := F2.bools; rw [List.length_replicate] at h; exact h
  clear f1 f2 F1 F2 hI HMK HROW HARG hHeld
  refine wpAnyH_ready (rs := [9]) (by kernel_rfl) (by simp) ?_
  refine AllReadyH.cons rfl (fun K' hK => ?_) AllReadyH.nil
  go_simp
  refine (best_any ra ga n c m d single G hn hm HV.out HGL.out m 0 la (some ⟨ub, 0, none⟩) lc n R (List.replicate n false) w4 (Nat.zero_add m) HA4.out.2.1 HL4.out HU4.out HRB.out).mono ?_
  rintro e w5 ⟨rfl, hb5⟩
  go_simp
  refine hK.out _ _ (keep3 hb5 hS4) (fun hHeld => ?_)
  clear hK K'
  refine take_at (i := 10) (v := ?_) 2 rfl rfl (by kernel_rfl) (by kernel_rfl) (by kernel_rfl) (fun _ _ _ h => h) (Or.inl ⟨by rfl, ?_⟩) (by assumption) ?_
  rotate_left
  ·
   intro w hSw; go_simp <;> with_reducible rfl
  try simp only [Act.put, List.setIfInBounds_toArray, List.set_cons_zero, List.set_cons_succ]
  refine wpAnyH_done (by kernel_rfl) ?_ _
  clear hHeld hS4
  have HFIN : Hid (bestF single G m 0 R (List.replicate n false) = bestS single R G) := by show _ = _; rw [bestS, HGL.out, HRL.out]
  go_wp2
  go_ret
  exact ⟨ret_int HFIN.out, HA4.out.2.2.trans (hb5.mono HA4.out.2.2.size)⟩
end Go.Proofs.YthabgljdndbphaaGreatDoor

namespace Go.Proofs.YthabgljdndbphaaGreatDoor
open Go.RowKit




/-! ### Choices -/
/-- The decisions about the first n groups. -/
def dec (c : Nat → Int) (n : Nat) : List (Int × Int) := (List.range n).map fun (i : Nat) => ((i : Int), c i)

theorem dec_succ (c : Nat → Int) (n : Nat) : dec c (n + 1) = dec c n ++ [((n : Int), c n)] := by simp [dec, List.range_succ]

theorem dec_length (c : Nat → Int) (n : Nat) : (dec c n).length = n := by simp [dec]

theorem mem_dec (c : Nat → Int) (n : Nat) (p : Int × Int) : p ∈ dec c n ↔ ∃ i, i < n ∧ p = ((i : Int), c i) := by
 unfold dec
 rw [List.mem_map]
 exact ⟨fun ⟨i, hi, e⟩ => ⟨i, List.mem_range.mp hi, e.symm⟩, fun ⟨i, hi, e⟩ => ⟨i, List.mem_range.mpr hi, e.symm⟩⟩

theorem dec_congr (c c' : Nat → Int) (n : Nat) (h : ∀ i, i < n → c i = c' i) : dec c n = dec c' n := by
 unfold dec
 exact List.map_congr_left fun i hi => by rw [h i (List.mem_range.mp hi)]

theorem dec_once (c : Nat → Int) : ∀ n, Once (dec c n) := by
 intro n
 induction n with
 | zero => exact List.Pairwise.nil
 | succ n ih =>
  rw [dec_succ]
  unfold Once at *
  rw [List.pairwise_append]
  refine ⟨ih, List.pairwise_singleton .., fun p hp q hq => ?_⟩
  obtain ⟨i, hi, rfl⟩ := (mem_dec c n p).mp hp
  rw [List.mem_singleton.mp hq]
  dsimp only
  omega

theorem dec_ok {c : Nat → Int} {n m g : Nat} (hg : g ≤ m) (hc : ∀ i, i < g → -1 ≤ c i ∧ c i < n) : EsOk n m (dec c g) := by
 intro p hp
 obtain ⟨i, hi, rfl⟩ := (mem_dec c g p).mp hp
 have := hc i hi
 dsimp only
 omega

/-- Which runs somebody sits in. -/
def UsedOk (n : Nat) (es : List (Int × Int)) (used : List Bool) : Prop := used.length = n ∧ ∀ r, r < n → (bx used r = true ↔ ∃ p ∈ es, p.2 = (r : Int))

theorem UsedOk.sit {n : Nat} {es : List (Int × Int)} {used : List Bool} (h : UsedOk n es used) (g : Int) (q : Nat) (hq : q < n) : UsedOk n (es ++ [(g, (q : Int))]) (used.set q true) := by
 refine ⟨by rw [List.length_set]; exact h.1, fun r hr => ?_⟩
 rw [bx_set _ _ _ _ (by rw [h.1]; exact hq)]
 by_cases e : q = r
 ·
  rw [if_pos e]
  exact ⟨fun _ => ⟨(g, (q : Int)), by simp, by dsimp only; omega⟩, fun _ => rfl⟩
 ·
  rw [if_neg e, h.2 r hr]
  constructor
  ·
   rintro ⟨p, hp, hpr⟩; exact ⟨p, by simp [hp], hpr⟩
  ·
   rintro ⟨p, hp, hpr⟩
   rcases List.mem_append.mp hp with hp | hp
   ·
    exact ⟨p, hp, hpr⟩
   ·
    rw [List.mem_singleton.mp hp] at hpr; dsimp only at hpr; omega

theorem UsedOk.out {n : Nat} {es : List (Int × Int)} {used : List Bool} (h : UsedOk n es used) (g v : Int) (hv : v < 0) : UsedOk n (es ++ [(g, v)]) used := by
 refine ⟨h.1, fun r hr => ?_⟩
 rw [h.2 r hr]
 constructor
 ·
  rintro ⟨p, hp, hpr⟩; exact ⟨p, by simp [hp], hpr⟩
 ·
  rintro ⟨p, hp, hpr⟩
  rcases List.mem_append.mp hp with hp | hp
  ·
   exact ⟨p, hp, hpr⟩
  ·
   rw [List.mem_singleton.mp hp] at hpr; dsimp only at hpr; omega


theorem bx_rep (m k : Nat) : bx (List.replicate m false) k = false := by
 unfold bx
 simp only [List.getD]
 by_cases h : k < m
 ·
  simp [h]
 ·
  rw [List.getElem?_eq_none (by simpa using h)]; rfl

theorem used_none (n : Nat) : UsedOk n [] (List.replicate n false) := by
 refine ⟨by simp, fun r hr => ?_⟩
 rw [bx_rep]
 exact ⟨fun h => by simp at h, fun ⟨p, hp, _⟩ => by simp at hp⟩

theorem usedS_pos (n r : Nat) (_hr : r < n) : ∀ (es : List (Int × Int)) (L : List Int), L.length = n → (∀ p ∈ es, p.2 < n) → 0 ≤ ix L r → ix L r ≤ ix (es.foldl usedF L) r ∧ ((∃ p ∈ es, p.2 = (r : Int)) → ix L r < ix (es.foldl usedF L) r) := by
 intro es
 induction es with
 | nil => intro L _ _ _; exact ⟨Int.le_refl _, fun ⟨p, hp, _⟩ => by simp at hp⟩
 | cons p es ih =>
  intro L hl hb h0
  have hp := hb p (by simp)
  have hs : ix (usedF L p) r = if p.2 = (r : Int) then ix L r + 1 else ix L r := by
   unfold usedF
   by_cases h : 0 ≤ p.2
   ·
    rw [if_pos h, ix_set _ _ _ _ (by omega)]
    by_cases e : p.2 = (r : Int)
    ·
     rw [if_pos (by omega), if_pos e, show p.2.toNat = r from by omega]
    ·
     rw [if_neg (by omega), if_neg e]
   ·
    rw [if_neg h, if_neg (by omega)]
  have i := ih (usedF L p) (by rw [usedF_length, hl]) (fun q hq => hb q (by simp [hq])) (by rw [hs]; split <;> omega)
  rw [List.foldl_cons]
  rw [hs] at i
  refine ⟨by have := i.1; split at this <;> omega, fun ⟨q, hq, e⟩ => ?_⟩
  rcases List.mem_cons.mp hq with rfl | hq
  ·
   have := i.1; rw [if_pos e] at this; omega
  ·
   have := i.2 ⟨q, hq, e⟩; split at this <;> omega

theorem usedS_iff {n m r : Nat} {es : List (Int × Int)} (hr : r < n) (ho : EsOk n m es) : 0 < ix (usedS n es) r ↔ ∃ p ∈ es, p.2 = (r : Int) := by
 have z : ix (List.replicate n 0) r = 0 := by simp [ix, List.getD, hr]
 constructor
 ·
  intro h
  exact usedS_some (m := m) r hr es (List.replicate n 0) (by simp) ho (by rw [z]; exact h)
 ·
  intro h
  have := (usedS_pos n r hr es (List.replicate n 0) (by simp) (fun p hp => (ho p hp).2.2) (by omega)).2 h
  rw [z] at this
  exact this

theorem roomS_len (G : List (Int × Int)) (es : List (Int × Int)) (R : List Int) : (roomS R G es).length = R.length := by
 unfold roomS
 have : ∀ (es : List (Int × Int)) (L : List Int), (es.foldl (roomF G) L).length = L.length := by
  intro es
  induction es with
  | nil => intro L; rfl
  | cons p es ih => intro L; rw [List.foldl_cons, ih, roomF_length]
 exact this es R

/-- What the first n groups take of run r. -/
def takes (G : List (Int × Int)) (c : Nat → Int) (r : Int) (n : Nat) : Int := sumRows (fun i => if c i = r then gs G i else 0) n

theorem room_takes (R : List Int) (G : List (Int × Int)) (c : Nat → Int) (r : Nat) : ∀ g, (∀ i, i < g → c i < R.length) → ix (roomS R G (dec c g)) r = ix R r - takes G c r g := by
 intro g
 induction g with
 | zero => intro _; show ix R r = _; rw [takes, sumRows]; omega
 | succ g ih =>
  intro h
  have i := ih fun i hi => h i (by omega)
  have hg := h g (by omega)
  rw [dec_succ, roomS_push, takes, sumRows, ← takes, roomF]
  dsimp only
  by_cases h0 : 0 ≤ c g
  ·
   rw [if_pos h0, ix_set _ _ _ _ (by rw [roomS_len]; omega), Int.toNat_natCast]
   by_cases e : c g = (r : Int)
   ·
    rw [if_pos (by omega), if_pos e, show (c g).toNat = r from by omega, i]; omega
   ·
    rw [if_neg (by omega), if_neg e, i]; omega
  ·
   rw [if_neg h0, if_neg (by omega), i]; omega


theorem takes_nonneg {G : List (Int × Int)} (hv : ValuesOk G) (c : Nat → Int) (r : Int) : ∀ n, n ≤ G.length → 0 ≤ takes G c r n := by
 intro n
 induction n with
 | zero => intro _; exact Int.le_refl _
 | succ n ih =>
  intro h
  have := ih (by omega)
  have := (hv n (by omega)).1
  rw [takes, sumRows, ← takes]
  split <;> omega

theorem takes_at {G : List (Int × Int)} (hv : ValuesOk G) (c : Nat → Int) (r : Int) : ∀ n i, n ≤ G.length → i < n → c i = r → takes G c r i + gs G i ≤ takes G c r n := by
 intro n
 induction n with
 | zero => intro i _ h; omega
 | succ n ih =>
  intro i h hi e
  have hg := (hv n (by omega)).1
  rw [takes, takes, sumRows, ← takes, ← takes]
  by_cases h1 : i = n
  ·
   subst h1; rw [if_pos e]; exact Int.le_refl _
  ·
   have := ih i (by omega) (by omega) e
   split <;> omega

/-! ### No permitted packing brings more than bestS -/
section
variable {single : Bool} {R : List Int} {G S : List (Int × Int)} {V : Int}

theorem legal_runs (h : LegalP single R G S V) (i : Nat) (hi : i < G.length) : -1 ≤ gs S i ∧ gs S i < R.length := by
 rcases ((legal_iff ..).mp h).2.2.1 i hi with a | b
 ·
  omega
 ·
  unfold badSpot at b; omega


end

/-! ### And one brings it -/
/-- A choice of runs that can be seated. -/
structure Choice (single : Bool) (R : List Int) (G : List (Int × Int)) (c : Nat → Int) : Prop where
 runs : ∀ i, i < G.length → -1 ≤ c i ∧ c i < R.length
 room : ∀ r, r < R.length → 0 ≤ ix (roomS R G (dec c G.length)) r
 one : single = true → ∀ r, r < R.length → (∃ i, i < G.length ∧ c i = (r : Int)) → ix (roomS R G (dec c G.length)) r ≠ 1


/-- The groups of a choice, one behind the other. -/
def seatAll (G : List (Int × Int)) (c : Nat → Int) : List (Int × Int) := (List.range G.length).map fun (k : Nat) => (c k, if 0 ≤ c k then takes G c (c k) k else 0)

theorem seat_at (G : List (Int × Int)) (c : Nat → Int) (k : Nat) (hk : k < G.length) : gs (seatAll G c) k = c k ∧ gv (seatAll G c) k = if 0 ≤ c k then takes G c (c k) k else 0 := spots_get _ _ _ hk

theorem choice_legal {single : Bool} {R : List Int} {G : List (Int × Int)} {c : Nat → Int} (hv : validS R G = true) (h : Choice single R G c) : LegalP single R G (seatAll G c) (valS G (dec c G.length)) := by
 have hp := (validS_parts hv).2.2
 have hrs := (runsOk_sum R 4000 (by omega) (validS_parts hv).1).2.2
 have hroom : ∀ r, r < R.length → takes G c r G.length ≤ ix R r := fun r hr => by
  have a := h.room r hr
  rw [room_takes R G c r _ (fun i hi => (h.runs i hi).2)] at a
  omega
 have hrow : ∀ (r : Nat), ∀ n, n ≤ G.length → rowSum (rowL G (seatAll G c) r n) = takes G c r n := by
  intro r n
  induction n with
  | zero => intro _; rfl
  | succ n ih =>
   intro hn
   rw [rowL, takes, sumRows, ← takes, ← ih (by omega), (seat_at G c n (by omega)).1]
   split
   ·
    rw [rowSum_append]; simp [rowSum]
   ·
    omega
 refine (legal_iff ..).mpr ⟨hv, by simp [seatAll], fun k hk => ?_, fun r hr => ?_, ?_⟩
 ·
  have hr := h.runs k hk
  unfold SpotOk
  rw [(seat_at G c k hk).1, (seat_at G c k hk).2]
  by_cases h0 : 0 ≤ c k
  ·
   right
   have a := takes_at hp c (c k) G.length k (Nat.le_refl _) hk rfl
   have b := takes_nonneg hp c (c k) k (by omega)
   have d := hroom (c k).toNat (by omega)
   rw [Int.toNat_of_nonneg h0] at d
   unfold badSpot
   rw [if_pos h0]
   omega
  ·
   left; rw [if_neg h0]; omega
 ·
  have hnn := takes_nonneg hp c r G.length (Nat.le_refl _)
  refine rowLegal_nogap (E := takes G c r G.length) (fun x hx => ?_) (rowL_apart G _ r _ (fun i j hij hj ei ej => ?_)) (fun x hx => ?_) hnn (hrow r _ (Nat.le_refl _)) (fun hs => ?_)
  ·
   obtain ⟨k, hk, e, rfl⟩ := rowL_mem G _ r _ x hx
   exact (hp k hk).1.1
  ·
   left
   rw [(seat_at G c i (by omega)).1] at ei
   rw [(seat_at G c j hj).1] at ej
   rw [(seat_at G c i (by omega)).2, (seat_at G c j hj).2, if_pos (by omega), if_pos (by omega), ei, ej]
   exact takes_at hp c r j i (by omega) hij ei
  ·
   obtain ⟨k, hk, e, rfl⟩ := rowL_mem G _ r _ x hx
   dsimp only
   rw [(seat_at G c k hk).1] at e
   rw [(seat_at G c k hk).2, if_pos (by omega), e]
   have a := takes_at hp c r G.length k (Nat.le_refl _) hk e
   have b := takes_nonneg hp c r k (by omega)
   omega
  ·
   by_cases he : ∃ i, i < G.length ∧ c i = (r : Int)
   ·
    left
    have a := h.one hs r hr he
    rw [room_takes R G c r _ (fun i hi => (h.runs i hi).2)] at a
    omega
   ·
    right
    have : ∀ n, n ≤ G.length → takes G c r n = 0 := by
     intro n
     induction n with
     | zero => intro _; rfl
     | succ n ih =>
      intro hn
      rw [takes, sumRows, ← takes, ih (by omega), if_neg (fun e => he ⟨n, by omega, e⟩)]; rfl
    exact this _ (Nat.le_refl _)
 ·
  have : ∀ n, n ≤ G.length → amtV G (taken G (seatAll G c)) (idx n) = valS G (dec c n) := by
   intro n
   induction n with
   | zero => intro _; rfl
   | succ n ih =>
    intro hn
    have hr := h.runs n (by omega)
    rw [idx_succ, amtV_append, ih (by omega), dec_succ, valS_push, valF]
    simp only [amtV, taken, Int.toNat_natCast, (seat_at G c n (by omega)).1]
    by_cases h0 : 0 ≤ c n
    ·
     rw [if_neg (by omega), if_pos h0]; omega
    ·
     rw [if_pos (by omega), if_neg h0]; omega
  exact this _ (Nat.le_refl _)

end Go.Proofs.YthabgljdndbphaaGreatDoor
