/- hold: the laws' operations: few, do, played, same. -/
import Derived.Test.YtkdbenoleendcaaGreatDoorQHMB32

namespace Go.Proofs.YtkdbenoleendcaaGreatDoor
open Go.RowKit Go.IntWalk Go.Maps Go.WideMaps

/-- An operation, and where its places lie. -/
abbrev OpR := OpT × (Option Addr × Nat)

def OpE : Enc OpR 5 := ⟨fun x => [.int .i64 x.1.1, .string (bs x.1.2.1), .slice x.2.1 x.1.2.2.1.length x.2.2, .int .i64 x.1.2.2.2.1, .int .i64 x.1.2.2.2.2], fun _ => rfl, fun x v hv => by
  simp only [List.mem_cons, List.not_mem_nil, or_false] at hv
  rcases hv with rfl | rfl | rfl | rfl | rfl <;> rfl, by decide⟩

/-- What an argument's operation keeps to. -/
def WfOp (x : OpR) : Prop := (Lit.int .i64 x.1.2.2.2.1).wf = true ∧ x.1.2.1.length ≤ 9223372036854775807 ∧ x.1.2.2.1.length ≤ 9223372036854775807 ∧ x.1.2.2.1.length ≤ x.2.2

/-- Operations in memory, their places in blocks below B. -/
def OpsIn (w : World) (B : Nat) (rs : List OpR) : Prop := ∀ r ∈ rs, WfOp r ∧ Ints w r.2.1 r.1.2.2.1.length r.1.2.2.1 ∧ (0 < r.1.2.2.1.length → ∀ b o s, r.2.1 = some ⟨b, o, s⟩ → b < B)

theorem OpsIn.upd {w w' : World} {B : Nat} {rs : List OpR} (h : OpsIn w B rs) {T : Nat → Prop} (hu : Upd T w w') (hT : ∀ i, T i → B ≤ i) : OpsIn w' B rs := by
  intro r hr
  obtain ⟨h1, h2, h3⟩ := h r hr
  refine ⟨h1, ⟨h2.1, fun k hk => ?_⟩, h3⟩
  obtain ⟨b, o, e, c⟩ := h2.2 k hk
  refine ⟨b, o, e, ?_⟩
  have hb := h3 (by omega) b o none e
  have hl := cell_lt c
  have hT' : ¬ T b := fun ht => by have := hT b ht; omega
  rw [← c]
  simp only [World.cell?, hu.block b hl hT']

theorem op_at {w : World} {ra : Option Addr} {n : Nat} {rs : List OpR} (h : Recs OpE w ra n rs) (i : Nat) (hi : i < n) (hiE : i < rs.length) : ∃ b o, ra = some ⟨b, o, none⟩ ∧ w.cell? ⟨b, o + i * 5, none⟩ = some (.int .i64 rs[i].1.1) ∧
    w.cell? ⟨b, o + i * 5 + 1, none⟩ = some (.string (bs rs[i].1.2.1)) ∧ w.cell? ⟨b, o + i * 5 + 2, none⟩ = some (.slice rs[i].2.1 rs[i].1.2.2.1.length rs[i].2.2) ∧
    w.cell? ⟨b, o + i * 5 + 3, none⟩ = some (.int .i64 rs[i].1.2.2.2.1) ∧ w.cell? ⟨b, o + i * 5 + 4, none⟩ = some (.int .i64 rs[i].1.2.2.2.2) := by
  obtain ⟨b, o, e, c⟩ := h.2 i hi
  have c0 := c 0 (by omega)
  have c1 := c 1 (by omega)
  have c2 := c 2 (by omega)
  have c3 := c 3 (by omega)
  have c4 := c 4 (by omega)
  rw [rc_eq _ _ hiE] at c0 c1 c2 c3 c4
  exact ⟨b, o, e, c0, c1, c2, c3, c4⟩

def fewB (l : List OpT) : Bool := l.all (fun x => decide (x.2.1.length ≤ 60) && decide (x.2.2.1.length ≤ 20)) && decide (l.length ≤ 40)

theorem fewB_iff {l : List OpT} : fewB l = true ↔ (∀ x ∈ l, x.2.1.length ≤ 60 ∧ x.2.2.1.length ≤ 20) ∧ l.length ≤ 40 := by
  unfold fewB
  simp only [Bool.and_eq_true, decide_eq_true_eq, List.all_eq_true]

set_option maxRecDepth 10000 in
set_option maxHeartbeats 800000 in
theorem few_any (ra : Option Addr) (n c B : Nat) (rs : List OpR) (w : World) (h : Recs OpE w ra n rs) (ho : OpsIn w B rs) (hn : n ≤ 9223372036854775807) :
    Calls Tryz.prog 5 #[.slice ra n c] w fun e w' => e = .returned (.bool (fewB (rs.map (·.1)))) ∧ w = w' := by
  have HM := Lib.hid h
  have HO := Lib.hid ho
  have hlen := h.1
  clear h ho
  go_enter Tryz.func5, Tryz.ntmps5
  go_wp2_with fail
  go_loopw [3] (fun v3 wr => ∃ i : Nat, v3 = .int .i64 i ∧ w = wr ∧ i ≤ n ∧ Hid (∀ j (hj : j < rs.length), j < i → rs[j].1.2.1.length ≤ 60 ∧ rs[j].1.2.2.1.length ≤ 20)) (fun v3 _ => n - (intOf v3).toNat)
  case atStart => exact ⟨0, rfl, rfl, Nat.zero_le _, fun j _ hj => by omega⟩
  case round =>
    obtain ⟨i, rfl, rfl, hi, HW⟩ := hrel
    by_cases hlt : i < n
    · have hiE : i < rs.length := by omega
      obtain ⟨b, o, rfl, c0, c1, c2, c3, c4⟩ := op_at HM.out i hlt hiE
      have hwf := (HO.out _ (List.getElem_mem hiE)).1
      have hbs := bs_size rs[i].1.2.1
      have hof := hwf.2.1
      have hof2 := hwf.2.2.1
      have HNO : Hid (¬ (rs[i].1.2.1.length ≤ 60 ∧ rs[i].1.2.2.1.length ≤ 20) → fewB (rs.map (·.1)) = false) := fun h => by
        cases hh : fewB (rs.map (·.1))
        · rfl
        · exact absurd ((fewB_iff.mp hh).1 _ (List.mem_map_of_mem (List.getElem_mem hiE))) h
      have HYS : Hid ((rs[i].1.2.1.length ≤ 60 ∧ rs[i].1.2.2.1.length ≤ 20) → ∀ j (hj : j < rs.length), j < i + 1 → rs[j].1.2.1.length ≤ 60 ∧ rs[j].1.2.2.1.length ≤ 20) := fun h j hj hji => by
        by_cases e : j = i
        · subst e; exact h
        · exact HW.out j hj (by omega)
      clear hwf c0 c3 c4
      generalize rs[i] = x at *
      obtain ⟨⟨k, t, L, id, cl⟩, pa, pc⟩ := x
      dsimp only at c1 c2 hbs hof hof2 HNO HYS
      by_cases h60 : t.length ≤ 60
      · have h60' : (t.length : Int) ≤ 60 := by omega
        by_cases h20 : L.length ≤ 20
        · have h20' : (L.length : Int) ≤ 20 := by omega
          have HY := Lib.hid (HYS.out ⟨h60, h20⟩)
          clear HYS HNO
          go_wp2_with fail
          go_roundw
          case rel => exact ⟨i + 1, by go_num, trivial, hlt, HY.out⟩
          case measure => simp [intOf]; omega
        · have h20' : (20 : Int) < L.length := by omega
          have HR : Hid (fewB (rs.map (·.1)) = false) := HNO.out (fun h => h20 h.2)
          clear HYS HNO
          go_wp2_with fail
          go_ret
          exact ⟨by rw [HR.out]; rfl, rfl⟩
      · have h60' : (60 : Int) < t.length := by omega
        have HR : Hid (fewB (rs.map (·.1)) = false) := HNO.out (fun h => h60 h.1)
        clear HYS HNO
        go_wp2_with fail
        go_ret
        exact ⟨by rw [HR.out]; rfl, rfl⟩
    · have HR : Hid (fewB (rs.map (·.1)) = decide ((n : Int) ≤ 40)) := by
        show _ = _
        by_cases h40 : n ≤ 40
        · rw [fewB_iff.mpr ⟨fun x hx => by
            obtain ⟨r, hr, rfl⟩ := List.mem_map.mp hx
            obtain ⟨j, hj, rfl⟩ := List.getElem_of_mem hr
            exact HW.out j hj (by omega), by simp; omega⟩]
          simp; omega
        · cases hk : fewB (rs.map (·.1))
          · simp; omega
          · have := (fewB_iff.mp hk).2
            simp at this
            omega
      go_wp2_with fail
      go_ret
      exact ⟨by rw [HR.out]; rfl, rfl⟩

/-- What an operation gives, and leaves. -/
def DoPost (g M sb : Nat) (st : St) (x : OpT) (w : World) (e : Ending) (w' : World) : Prop :=
  ∃ v, e = .returned (.tuple #[.int .i64 (doS nameS st x).1.1, v, .int .i64 (doS nameS st x).1.2.2]) ∧ LRes w' v (doS nameS st x).1.2.1 ∧ HS w' g M sb (doS nameS st x).2 ∧ Upd (Own3 g M sb) w w'

set_option maxRecDepth 10000 in
set_option maxHeartbeats 3200000 in
theorem do_any (w : World) (g M sb : Nat) (st : St) (k : Int) (t : NmT) (L : List Int) (id cl : Int) (pa : Option Addr) (m mc : Nat) (h : HS w g M sb st) (hsp : st.sp.length ≤ 4000) (hl : st.last ≤ 1000) (hm : m ≤ 4000) (hlen : t.length ≤ 1000) (hw : (Lit.int .i64 id).wf = true)
    (hL : ∀ wx, Upd (Own3 g M sb) w wx → Ints wx pa m L) :
    Calls Tryz.prog 8 #[.pointer (some ⟨g, 0, none⟩), .agg #[.int .i64 k, .string (bs t), .slice pa m mc, .int .i64 id, .int .i64 cl]] w (DoPost g M sb st (k, t, L, id, cl) w) := by
  have hb := Joins.below_alloc1 w (.cells #[.int .i64 k, .string (bs t), .slice pa m mc, .int .i64 id, .int .i64 cl] 31)
  have HB := Lib.hid hb
  have HH := Lib.hid (h.below hb)
  have HL : Hid (∀ wx, Upd (Own3 g M sb) (w.alloc (.cells #[.int .i64 k, .string (bs t), .slice pa m mc, .int .i64 id, .int .i64 cl] 31)) wx → Ints wx pa m L) := fun wx hu => hL wx ((Upd.of_below hb).trans hu)
  have HX : Hid ((w.alloc (.cells #[.int .i64 k, .string (bs t), .slice pa m mc, .int .i64 id, .int .i64 cl] 31)).heap[w.heap.size]? = some (.cells #[.int .i64 k, .string (bs t), .slice pa m mc, .int .i64 id, .int .i64 cl] 31 (0, 0))) := World.alloc_heap_new w _
  clear hb h hL
  go_enter Tryz.func8, Tryz.ntmps8
  go_upto_region 1 with fail
  generalize w.alloc (.cells #[.int .i64 k, .string (bs t), .slice pa m mc, .int .i64 id, .int .i64 cl] 31) = w1 at *
  have x0 : w1.cell? ⟨w.heap.size, 0, none⟩ = some (.int .i64 k) := cell_of_row (j := 0) _ _ _ _ _ HX.out
  have x1 : w1.cell? ⟨w.heap.size, 1, none⟩ = some (.string (bs t)) := cell_of_row (j := 1) _ _ _ _ _ HX.out
  have x2 : w1.cell? ⟨w.heap.size, 2, none⟩ = some (.slice pa m mc) := cell_of_row (j := 2) _ _ _ _ _ HX.out
  have x3 : w1.cell? ⟨w.heap.size, 3, none⟩ = some (.int .i64 id) := cell_of_row (j := 3) _ _ _ _ _ HX.out
  have x4 : w1.cell? ⟨w.heap.size, 4, none⟩ = some (.int .i64 cl) := cell_of_row (j := 4) _ _ _ _ _ HX.out
  clear HX
  by_cases h0 : k = 0
  · have HS1 : Hid (doS nameS st (k, t, L, id, cl) = (((takeS st (nameS t) t L id cl).1.1, [], (takeS st (nameS t) t L id cl).1.2), (takeS st (nameS t) t L id cl).2)) := by
      show _ = _
      unfold doS
      rw [if_pos h0]
    have hk0 : (k == 0) = true := by simp [h0]
    clear h0
    go_wp2_with fail
    refine (hs_take HH.out hsp hl t L pa m mc id cl hm hlen HL.out).mono ?_
    rintro e w2 ⟨rfl, hh, hu⟩
    have HH2 := Lib.hid hh
    have HU2 := Lib.hid hu
    clear hh hu x0 x1 x2 x3 x4
    go_wp2_with fail
    go_ret3
    refine ⟨_, by rw [HS1.out]; rfl, ?_, by rw [HS1.out]; exact HH2.out, (Upd.of_below HB.out).trans HU2.out⟩
    rw [HS1.out]
    exact LRes.nil _
  have hk0 : (k == 0) = false := by simp [h0]
  by_cases h1 : k = 1
  · have HS1 : Hid (doS nameS st (k, t, L, id, cl) = ((0, [], (swapS st id L).1), (swapS st id L).2)) := by
      show _ = _
      unfold doS
      rw [if_neg h0]
      rw [if_pos h1]
    have hk1 : (k == 1) = true := by simp [h1]
    clear h1
    go_wp2_with fail
    refine (hs_swap HH.out hsp hl id hw L pa m mc hm HL.out).mono ?_
    rintro e w2 ⟨rfl, hh, hu⟩
    have HH2 := Lib.hid hh
    have HU2 := Lib.hid hu
    clear hh hu x0 x1 x2 x3 x4
    go_wp2_with fail
    go_ret3
    refine ⟨_, by rw [HS1.out]; rfl, ?_, by rw [HS1.out]; exact HH2.out, (Upd.of_below HB.out).trans HU2.out⟩
    rw [HS1.out]
    exact LRes.nil _
  have hk1 : (k == 1) = false := by simp [h1]
  by_cases h2 : k = 2
  · have HS1 : Hid (doS nameS st (k, t, L, id, cl) = ((0, [], (endS st id (0, 0)).1.2), (endS st id (0, 0)).2)) := by
      show _ = _
      unfold doS
      rw [if_neg h0]
      rw [if_neg h1]
      rw [if_pos h2]
    have hk2 : (k == 2) = true := by simp [h2]
    clear h2
    go_wp2_with fail
    refine (hs_release HH.out id hw).mono ?_
    rintro e w2 ⟨rfl, hh, hu⟩
    have HH2 := Lib.hid hh
    have HU2 := Lib.hid hu
    clear hh hu x0 x1 x2 x3 x4
    go_wp2_with fail
    go_ret3
    refine ⟨_, by rw [HS1.out]; rfl, ?_, by rw [HS1.out]; exact HH2.out, (Upd.of_below HB.out).trans HU2.out⟩
    rw [HS1.out]
    exact LRes.nil _
  have hk2 : (k == 2) = false := by simp [h2]
  by_cases h3 : k = 3
  · have HS1 : Hid (doS nameS st (k, t, L, id, cl) = ((0, (expireS st id).1, 0), (expireS st id).2)) := by
      show _ = _
      unfold doS
      rw [if_neg h0]
      rw [if_neg h1]
      rw [if_neg h2]
      rw [if_pos h3]
    have hk3 : (k == 3) = true := by simp [h3]
    clear h3
    go_wp2_with fail
    refine (hs_expire HH.out hl id).mono ?_
    rintro e w2 ⟨v, rfl, hv, hh, hu⟩
    have HH2 := Lib.hid hh
    have HU2 := Lib.hid hu
    have HV := Lib.hid hv
    obtain ⟨p1, p2, rfl, hI⟩ := hv.ints
    clear hI
    clear hv hh hu x0 x1 x2 x3 x4
    go_wp2_with fail
    go_ret3
    refine ⟨_, by rw [HS1.out]; rfl, ?_, by rw [HS1.out]; exact HH2.out, (Upd.of_below HB.out).trans HU2.out⟩
    rw [HS1.out]
    exact HV.out
  have hk3 : (k == 3) = false := by simp [h3]
  by_cases h4 : k = 4
  · have HS1 : Hid (doS nameS st (k, t, L, id, cl) = ((0, (endS st id (2, id)).1.1, (endS st id (2, id)).1.2), (endS st id (2, id)).2)) := by
      show _ = _
      unfold doS
      rw [if_neg h0]
      rw [if_neg h1]
      rw [if_neg h2]
      rw [if_neg h3]
      rw [if_pos h4]
    have hk4 : (k == 4) = true := by simp [h4]
    clear h4
    go_wp2_with fail
    refine (hs_sell HH.out id hw).mono ?_
    rintro e w2 ⟨v, rfl, hv, hh, hu⟩
    have HH2 := Lib.hid hh
    have HU2 := Lib.hid hu
    have HV := Lib.hid hv
    clear hv hh hu x0 x1 x2 x3 x4
    go_wp2_with fail
    go_ret3
    refine ⟨_, by rw [HS1.out]; rfl, ?_, by rw [HS1.out]; exact HH2.out, (Upd.of_below HB.out).trans HU2.out⟩
    rw [HS1.out]
    exact HV.out
  have hk4 : (k == 4) = false := by simp [h4]
  have HS1 : Hid (doS nameS st (k, t, L, id, cl) = ((0, [], (freeS st id).1), (freeS st id).2)) := by
    show _ = _
    unfold doS
    rw [if_neg h0]
    rw [if_neg h1]
    rw [if_neg h2]
    rw [if_neg h3]
    rw [if_neg h4]
  clear h0 h1 h2 h3 h4
  go_wp2_with fail
  refine (hs_free HH.out id).mono ?_
  rintro e w2 ⟨rfl, hh, hu⟩
  have HH2 := Lib.hid hh
  have HU2 := Lib.hid hu
  clear hh hu x0 x1 x2 x3 x4
  go_wp2_with fail
  go_ret3
  refine ⟨_, by rw [HS1.out]; rfl, ?_, by rw [HS1.out]; exact HH2.out, (Upd.of_below HB.out).trans HU2.out⟩
  rw [HS1.out]
  exact LRes.nil _
end Go.Proofs.YtkdbenoleendcaaGreatDoor
