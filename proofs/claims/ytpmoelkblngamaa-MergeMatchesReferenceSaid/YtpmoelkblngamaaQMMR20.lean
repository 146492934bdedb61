/- merge: foyerref38.Same, SameBlames, Less, Few; foyerlaw38.has, scan; foyerref11.Ints, In: the walks. -/
import Derived.Test.YtpmoelkblngamaaQMMR19

namespace Go.Proofs.Ytpmoelkblngamaa
open Go.RowKit Go.IntWalk Go.Maps Go.WideMaps

theorem below_q {w a b : World} {n : Nat} (h : Below n w a) (q : Quiet a b) : Below n w b := by
  obtain ⟨m, rfl⟩ := q
  exact below_drewN h m

theorem ix_get {l : List Int} {i : Nat} (h : i < l.length) : ix l i = l[i] := by
  unfold ix
  rw [List.getD_eq_getElem?_getD, List.getElem?_eq_getElem h]
  rfl
theorem ix_mem {l : List Int} {i : Nat} (h : i < l.length) : ix l i ∈ l := by rw [ix_get h]; exact List.getElem_mem h

theorem list_ix {l m : List Int} (h : l.length = m.length) (he : ∀ i, i < l.length → ix l i = ix m i) : l = m := by
  refine List.ext_getElem h fun i h1 h2 => ?_
  have := he i h1
  rwa [ix_get h1, ix_get h2] at this

set_option maxRecDepth 10000 in
theorem ints_any (ra rb : Option Addr) (n c n2 c2 : Nat) (l m : List Int) (w : World) (hl : Ints w ra n l) (hm : Ints w rb n2 m) (hn : n ≤ 100000000) (hn2 : n2 ≤ 100000000) :
    Calls Try.prog 19 #[.slice ra n c, .slice rb n2 c2] w fun e w' => e = .returned (.bool (decide (l = m))) ∧ Quiet w w' := by
  have HL := Lib.hid hl
  have HM := Lib.hid hm
  have hll := hl.1
  have hml := hm.1
  clear hl hm
  by_cases hne : n = n2
  · subst hne
    go_enter Try.func19, Try.ntmps19
    go_wp2_with fail
    go_loopw [5] (fun v5 wr => ∃ i : Nat, v5 = .int .i64 i ∧ i ≤ n ∧ Hid (Quiet w wr) ∧ Hid (∀ j, j < i → ix l j = ix m j)) (fun v5 _ => n - (intOf v5).toNat)
    case atStart => exact ⟨0, rfl, Nat.zero_le _, Quiet.refl _, fun j hj => by omega⟩
    case round =>
      obtain ⟨i, rfl, hi, HB, HW⟩ := hrel
      by_cases hlt : i < n
      · obtain ⟨b1, o1, rfl, p0⟩ := (HL.out.below HB.out.below).2 i hlt
        obtain ⟨b2, o2, rfl, q0⟩ := (HM.out.below HB.out.below).2 i hlt
        have HX : Hid (ix l i = ix m i ∨ l ≠ m) := by
          by_cases e : ix l i = ix m i
          · exact Or.inl e
          · exact Or.inr (fun h => e (by rw [h]))
        obtain ⟨x, hx⟩ : ∃ x, ix l i = x := ⟨_, rfl⟩
        obtain ⟨y, hy⟩ : ∃ y, ix m i = y := ⟨_, rfl⟩
        rw [hx] at p0
        rw [hy] at q0
        rw [hx, hy] at HX
        have HXX := Lib.hid hx
        have HYY := Lib.hid hy
        clear hx hy
        by_cases h1 : x = y
        · have HE := Lib.hid h1
          have hb : (x != y) = false := by simp [h1]
          clear h1
          go_upto_region 6 with fail
          go_quiet (fail)
          go_wp2_with fail
          go_roundw
          case rel => exact ⟨i + 1, by go_num, by omega, HB.out.more nq, fun j hj => by
            by_cases e : j = i
            · rw [e, HXX.out, HYY.out]; exact HE.out
            · exact HW.out j (by omega)⟩
          case measure => simp [intOf]; omega
        · have HS : Hid (l ≠ m) := (HX.out.resolve_left h1)
          have hb : (x != y) = true := by simp [h1]
          clear h1
          go_upto_region 6 with fail
          go_quiet (fail)
          go_wp2_with fail
          go_ret
          exact ⟨by simp [HS.out], HB.out.more nq⟩
      · have hi' : i = n := by omega
        subst hi'
        have HE : Hid (l = m) := list_ix (by omega) (fun j hj => HW.out j (by omega))
        go_wp2_with fail
        go_ret
        exact ⟨by simp [HE.out], HB.out⟩
  · have HN : Hid (l ≠ m) := fun e => hne (by rw [← hll, ← hml, e])
    go_enter Try.func19, Try.ntmps19
    go_wp2_with fail
    go_ret
    exact ⟨by simp [HN.out], Quiet.refl _⟩

set_option maxRecDepth 10000 in
theorem in_any (ra : Option Addr) (n c : Nat) (l : List Int) (x : Int) (w : World) (hl : Ints w ra n l) (hn : n ≤ 100000000) :
    Calls Try.prog 27 #[.slice ra n c, .int .i64 x] w fun e w' => e = .returned (.bool (decide (x ∈ l))) ∧ w = w' := by
  have HL := Lib.hid hl
  have hll := hl.1
  clear hl
  go_enter Try.func27, Try.ntmps27
  go_wp2_with fail
  go_loopw [5] (fun v5 wr => ∃ i : Nat, v5 = .int .i64 i ∧ i ≤ n ∧ w = wr ∧ Hid (∀ j, j < i → ix l j ≠ x)) (fun v5 _ => n - (intOf v5).toNat)
  case atStart => exact ⟨0, rfl, Nat.zero_le _, rfl, fun j hj => by omega⟩
  case round =>
    obtain ⟨i, rfl, hi, rfl, HW⟩ := hrel
    by_cases hlt : i < n
    · obtain ⟨b1, o1, rfl, p0⟩ := HL.out.2 i hlt
      have HM : Hid (ix l i ∈ l) := ix_mem (by omega)
      obtain ⟨y, hy⟩ : ∃ y, ix l i = y := ⟨_, rfl⟩
      rw [hy] at p0 HM
      have HY := Lib.hid hy
      clear hy
      by_cases h1 : y = x
      · have HS : Hid (decide (x ∈ l) = true) := by
          show _ = _
          rw [← h1]
          simp [HM.out]
        have hb : (y == x) = true := by simp [h1]
        clear h1
        go_wp2_with fail
        go_ret
        exact ⟨by rw [HS.out]; rfl, rfl⟩
      · have hb : (y == x) = false := by simp [h1]
        have HN := Lib.hid h1
        clear h1
        go_wp2_with fail
        refine ⟨⟨i + 1, by go_num, hlt, trivial, fun j hj => ?_⟩, by simp [intOf]; omega⟩
        by_cases e : j = i
        · rw [e, HY.out]; exact HN.out
        · exact HW.out j (by omega)
    · have hi' : i = n := by omega
      subst hi'
      have HS : Hid (decide (x ∈ l) = false) := by
        show _ = _
        rw [decide_eq_false_iff_not]
        intro hm
        obtain ⟨j, hj, e⟩ := List.getElem_of_mem hm
        exact HW.out j (by omega) (by rw [ix_get hj, e])
      go_wp2_with fail
      go_ret
      exact ⟨by rw [HS.out]; rfl, rfl⟩


set_option maxRecDepth 10000 in
set_option maxHeartbeats 1600000 in
theorem scn_same (ra rb : Option Addr) (n c n2 c2 : Nat) (l m : List Scn) (w : World) (hl : Recs ScnE w ra n l) (hm : Recs ScnE w rb n2 m) (hn : n ≤ 100000000) (hn2 : n2 ≤ 100000000) :
    Calls Try.prog 15 #[.slice ra n c, .slice rb n2 c2] w fun e w' => e = .returned (.bool (decide (l = m))) ∧ Quiet w w' := by
  have HL := Lib.hid hl
  have HM := Lib.hid hm
  have hll := hl.1
  have hml := hm.1
  clear hl hm
  by_cases hne : n = n2
  · subst hne
    go_enter Try.func15, Try.ntmps15
    go_wp2_with fail
    go_loopw [5] (fun v5 wr => ∃ i : Nat, v5 = .int .i64 i ∧ i ≤ n ∧ Hid (Quiet w wr) ∧ Hid (∀ j, j < i → l[j]? = m[j]?)) (fun v5 _ => n - (intOf v5).toNat)
    case atStart => exact ⟨0, rfl, Nat.zero_le _, Quiet.refl _, fun j hj => by omega⟩
    case round =>
      obtain ⟨i, rfl, hi, HB, HW⟩ := hrel
      by_cases hlt : i < n
      · have h1 : i < l.length := by omega
        have h2 : i < m.length := by omega
        obtain ⟨b1, o1, rfl, c0, c1, c2, c3, c4, c5⟩ := scn_at (HL.out.below HB.out.below) i hlt h1
        obtain ⟨b2, o2, rfl, d0, d1, d2, d3, d4, d5⟩ := scn_at (HM.out.below HB.out.below) i hlt h2
        have HX1 : Hid (l[i]? = some l[i]) := List.getElem?_eq_getElem h1
        have HX2 : Hid (m[i]? = some m[i]) := List.getElem?_eq_getElem h2
        generalize l[i] = x at *
        generalize m[i] = y at *
        clear h1 h2
        have hgd := fun (p q : Operand) (wx : World) => guard_scn .neq p q x y wx
        by_cases hxy : x = y
        · have heq : ∀ wx, Sem.run Try.prog (binOp .neq 39 (.agg #[.int .i64 x.gate, .int .i64 x.number, .int .i64 x.time, .int .i64 x.serial, .int .i64 x.kind, .string (bs x.owner)]) (.agg #[.int .i64 y.gate, .int .i64 y.number, .int .i64 y.time, .int .i64 y.serial, .int .i64 y.kind, .string (bs y.owner)])) wx = .ok (.bool false) wx := fun wx => by rw [neq_scn, hxy]; simp
          have HN : Hid (∀ j, j < i + 1 → l[j]? = m[j]?) := fun j hj => by
            by_cases e : j = i
            · rw [e, HX1.out, HX2.out, hxy]
            · exact HW.out j (by omega)
          clear hxy HX1 HX2 HW
          go_upto_region 6 with fail
          go_region
          go_wp2_with fail
          go_roundw
          case rel => exact ⟨i + 1, by go_num, hlt, HB.out.next, HN⟩
          case measure => simp [intOf]; omega
        · have heq : ∀ wx, Sem.run Try.prog (binOp .neq 39 (.agg #[.int .i64 x.gate, .int .i64 x.number, .int .i64 x.time, .int .i64 x.serial, .int .i64 x.kind, .string (bs x.owner)]) (.agg #[.int .i64 y.gate, .int .i64 y.number, .int .i64 y.time, .int .i64 y.serial, .int .i64 y.kind, .string (bs y.owner)])) wx = .ok (.bool true) wx := fun wx => by rw [neq_scn]; simp [hxy]
          have HS : Hid (l ≠ m) := fun e => hxy (by have h1 := HX1.out; rw [e, HX2.out] at h1; exact (Option.some.inj h1).symm)
          clear hxy HX1 HX2 HW
          go_upto_region 6 with fail
          go_region
          go_wp2_with fail
          go_ret
          exact ⟨by simp [HS.out], HB.out.next⟩
      · have hi' : i = n := by omega
        subst hi'
        have HE : Hid (l = m) := List.ext_getElem? fun j => by
          by_cases hj : j < i
          · exact HW.out j hj
          · rw [List.getElem?_eq_none (by omega), List.getElem?_eq_none (by omega)]
        go_wp2_with fail
        go_ret
        exact ⟨by simp [HE.out], HB.out⟩
  · have HN : Hid (l ≠ m) := fun e => hne (by rw [← hll, ← hml, e])
    go_enter Try.func15, Try.ntmps15
    go_wp2_with fail
    go_ret
    exact ⟨by simp [HN.out], Quiet.refl _⟩

set_option maxRecDepth 10000 in
set_option maxHeartbeats 1600000 in
theorem blm_same (ra rb : Option Addr) (n c n2 c2 : Nat) (l m : List Blm) (w : World) (hl : Recs BlmE w ra n l) (hm : Recs BlmE w rb n2 m) (hn : n ≤ 100000000) (hn2 : n2 ≤ 100000000) :
    Calls Try.prog 16 #[.slice ra n c, .slice rb n2 c2] w fun e w' => e = .returned (.bool (decide (l = m))) ∧ Quiet w w' := by
  have HL := Lib.hid hl
  have HM := Lib.hid hm
  have hll := hl.1
  have hml := hm.1
  clear hl hm
  by_cases hne : n = n2
  · subst hne
    go_enter Try.func16, Try.ntmps16
    go_wp2_with fail
    go_loopw [5] (fun v5 wr => ∃ i : Nat, v5 = .int .i64 i ∧ i ≤ n ∧ Hid (Quiet w wr) ∧ Hid (∀ j, j < i → l[j]? = m[j]?)) (fun v5 _ => n - (intOf v5).toNat)
    case atStart => exact ⟨0, rfl, Nat.zero_le _, Quiet.refl _, fun j hj => by omega⟩
    case round =>
      obtain ⟨i, rfl, hi, HB, HW⟩ := hrel
      by_cases hlt : i < n
      · have h1 : i < l.length := by omega
        have h2 : i < m.length := by omega
        obtain ⟨b1, o1, rfl, c0, c1, c2, c3, c4, c5⟩ := blm_at (HL.out.below HB.out.below) i hlt h1
        obtain ⟨b2, o2, rfl, d0, d1, d2, d3, d4, d5⟩ := blm_at (HM.out.below HB.out.below) i hlt h2
        have HX1 : Hid (l[i]? = some l[i]) := List.getElem?_eq_getElem h1
        have HX2 : Hid (m[i]? = some m[i]) := List.getElem?_eq_getElem h2
        generalize l[i] = x at *
        generalize m[i] = y at *
        clear h1 h2
        have hgd := fun (p q : Operand) (wx : World) => guard_blm .neq p q x y wx
        by_cases hxy : x = y
        · have heq : ∀ wx, Sem.run Try.prog (binOp .neq 48 (.agg #[.int .i64 x.kind, .int .i64 x.serial, .int .i64 x.gate, .int .i64 x.number, .int .i64 x.other, .int .i64 x.count]) (.agg #[.int .i64 y.kind, .int .i64 y.serial, .int .i64 y.gate, .int .i64 y.number, .int .i64 y.other, .int .i64 y.count])) wx = .ok (.bool false) wx := fun wx => by rw [neq_blm, hxy]; simp
          have HN : Hid (∀ j, j < i + 1 → l[j]? = m[j]?) := fun j hj => by
            by_cases e : j = i
            · rw [e, HX1.out, HX2.out, hxy]
            · exact HW.out j (by omega)
          clear hxy HX1 HX2 HW
          go_upto_region 6 with fail
          go_region
          go_wp2_with fail
          go_roundw
          case rel => exact ⟨i + 1, by go_num, hlt, HB.out.next, HN⟩
          case measure => simp [intOf]; omega
        · have heq : ∀ wx, Sem.run Try.prog (binOp .neq 48 (.agg #[.int .i64 x.kind, .int .i64 x.serial, .int .i64 x.gate, .int .i64 x.number, .int .i64 x.other, .int .i64 x.count]) (.agg #[.int .i64 y.kind, .int .i64 y.serial, .int .i64 y.gate, .int .i64 y.number, .int .i64 y.other, .int .i64 y.count])) wx = .ok (.bool true) wx := fun wx => by rw [neq_blm]; simp [hxy]
          have HS : Hid (l ≠ m) := fun e => hxy (by have h1 := HX1.out; rw [e, HX2.out] at h1; exact (Option.some.inj h1).symm)
          clear hxy HX1 HX2 HW
          go_upto_region 6 with fail
          go_region
          go_wp2_with fail
          go_ret
          exact ⟨by simp [HS.out], HB.out.next⟩
      · have hi' : i = n := by omega
        subst hi'
        have HE : Hid (l = m) := List.ext_getElem? fun j => by
          by_cases hj : j < i
          · exact HW.out j hj
          · rw [List.getElem?_eq_none (by omega), List.getElem?_eq_none (by omega)]
        go_wp2_with fail
        go_ret
        exact ⟨by simp [HE.out], HB.out⟩
  · have HN : Hid (l ≠ m) := fun e => hne (by rw [← hll, ← hml, e])
    go_enter Try.func16, Try.ntmps16
    go_wp2_with fail
    go_ret
    exact ⟨by simp [HN.out], Quiet.refl _⟩

theorem two_blk (w : World) (a b : Obj) : ((w.alloc a).alloc b).heap[w.heap.size]? = some a ∧ ((w.alloc a).alloc b).heap[w.heap.size + 1]? = some b := by
  refine ⟨?_, ?_⟩
  · exact ((Joins.below_alloc1 (w.alloc a) b).block w.heap.size (by simp)).trans (World.alloc_heap_new w a)
  · have := World.alloc_heap_new (w.alloc a) b
    rw [show (w.alloc a).heap.size = w.heap.size + 1 from by simp] at this
    exact this
theorem less_key {a b : Int} {l m : List Int} : (a :: l < b :: m) ↔ if a = b then l < m else a < b := by
  rw [List.cons_lt_cons_iff]
  by_cases e : a = b
  · rw [if_pos e]
    exact ⟨fun h => h.elim (fun h => by omega) (fun h => h.2), fun h => Or.inr ⟨e, h⟩⟩
  · rw [if_neg e]
    exact ⟨fun h => h.elim id (fun h => absurd h.1 e), Or.inl⟩

set_option maxRecDepth 10000 in
set_option maxHeartbeats 800000 in
theorem less_any (x y : Scn) (w : World) : Calls Try.prog 22 #[.agg #[.int .i64 x.gate, .int .i64 x.number, .int .i64 x.time, .int .i64 x.serial, .int .i64 x.kind, .string (bs x.owner)], .agg #[.int .i64 y.gate, .int .i64 y.number, .int .i64 y.time, .int .i64 y.serial, .int .i64 y.kind, .string (bs y.owner)]] w fun e w' => e = .returned (.bool (decide (KLt KS x y))) ∧ Below w.heap.size w w' := by
  have HK : Hid (KLt KS x y ↔ if x.time = y.time then (if x.gate = y.gate then (if x.number = y.number then (if x.serial = y.serial then (if x.kind = y.kind then Op.bytesLess x.owner y.owner = true else x.kind < y.kind) else x.serial < y.serial) else x.number < y.number) else x.gate < y.gate) else x.time < y.time) := by
    show _ ↔ _
    rw [less_ints]
    show (x.time :: x.gate :: x.number :: x.serial :: x.kind :: _) < (y.time :: y.gate :: y.number :: y.serial :: y.kind :: _) ↔ _
    rw [less_key, less_key, less_key, less_key, less_key]
    exact Iff.rfl
  have HB := Lib.hid (Joins.below_alloc2 w (.cells #[.int .i64 x.gate, .int .i64 x.number, .int .i64 x.time, .int .i64 x.serial, .int .i64 x.kind, .string (bs x.owner)] 39) (.cells #[.int .i64 y.gate, .int .i64 y.number, .int .i64 y.time, .int .i64 y.serial, .int .i64 y.kind, .string (bs y.owner)] 39))
  have n1 := (two_blk w (.cells #[.int .i64 x.gate, .int .i64 x.number, .int .i64 x.time, .int .i64 x.serial, .int .i64 x.kind, .string (bs x.owner)] 39) (.cells #[.int .i64 y.gate, .int .i64 y.number, .int .i64 y.time, .int .i64 y.serial, .int .i64 y.kind, .string (bs y.owner)] 39)).1
  have n2 := (two_blk w (.cells #[.int .i64 x.gate, .int .i64 x.number, .int .i64 x.time, .int .i64 x.serial, .int .i64 x.kind, .string (bs x.owner)] 39) (.cells #[.int .i64 y.gate, .int .i64 y.number, .int .i64 y.time, .int .i64 y.serial, .int .i64 y.kind, .string (bs y.owner)] 39)).2
  have hs1 := bs_toList x.owner
  have hs2 := bs_toList y.owner
  go_enter Try.func22, Try.ntmps22
  go_upto_region 1 with fail
  generalize (w.alloc (.cells #[.int .i64 x.gate, .int .i64 x.number, .int .i64 x.time, .int .i64 x.serial, .int .i64 x.kind, .string (bs x.owner)] 39)).alloc (.cells #[.int .i64 y.gate, .int .i64 y.number, .int .i64 y.time, .int .i64 y.serial, .int .i64 y.kind, .string (bs y.owner)] 39) = w1 at *
  have x0 : w1.cell? ⟨w.heap.size, 0, none⟩ = some (.int .i64 x.gate) := by rw [cell_of_row _ _ _ _ _ _ n1]; rfl
  have x1 : w1.cell? ⟨w.heap.size, 1, none⟩ = some (.int .i64 x.number) := by rw [cell_of_row _ _ _ _ _ _ n1]; rfl
  have x2 : w1.cell? ⟨w.heap.size, 2, none⟩ = some (.int .i64 x.time) := by rw [cell_of_row _ _ _ _ _ _ n1]; rfl
  have x3 : w1.cell? ⟨w.heap.size, 3, none⟩ = some (.int .i64 x.serial) := by rw [cell_of_row _ _ _ _ _ _ n1]; rfl
  have x4 : w1.cell? ⟨w.heap.size, 4, none⟩ = some (.int .i64 x.kind) := by rw [cell_of_row _ _ _ _ _ _ n1]; rfl
  have x5 : w1.cell? ⟨w.heap.size, 5, none⟩ = some (.string (bs x.owner)) := by rw [cell_of_row _ _ _ _ _ _ n1]; rfl
  have y0 : w1.cell? ⟨w.heap.size + 1, 0, none⟩ = some (.int .i64 y.gate) := by rw [cell_of_row _ _ _ _ _ _ n2]; rfl
  have y1 : w1.cell? ⟨w.heap.size + 1, 1, none⟩ = some (.int .i64 y.number) := by rw [cell_of_row _ _ _ _ _ _ n2]; rfl
  have y2 : w1.cell? ⟨w.heap.size + 1, 2, none⟩ = some (.int .i64 y.time) := by rw [cell_of_row _ _ _ _ _ _ n2]; rfl
  have y3 : w1.cell? ⟨w.heap.size + 1, 3, none⟩ = some (.int .i64 y.serial) := by rw [cell_of_row _ _ _ _ _ _ n2]; rfl
  have y4 : w1.cell? ⟨w.heap.size + 1, 4, none⟩ = some (.int .i64 y.kind) := by rw [cell_of_row _ _ _ _ _ _ n2]; rfl
  have y5 : w1.cell? ⟨w.heap.size + 1, 5, none⟩ = some (.string (bs y.owner)) := by rw [cell_of_row _ _ _ _ _ _ n2]; rfl
  clear n1 n2
  by_cases h_time : x.time = y.time
  · have b_time : (x.time != y.time) = false := by simp [h_time]
    have H_time := Lib.hid h_time
    clear h_time
    by_cases h_gate : x.gate = y.gate
    · have b_gate : (x.gate != y.gate) = false := by simp [h_gate]
      have H_gate := Lib.hid h_gate
      clear h_gate
      by_cases h_number : x.number = y.number
      · have b_number : (x.number != y.number) = false := by simp [h_number]
        have H_number := Lib.hid h_number
        clear h_number
        by_cases h_serial : x.serial = y.serial
        · have b_serial : (x.serial != y.serial) = false := by simp [h_serial]
          have H_serial := Lib.hid h_serial
          clear h_serial
          by_cases h_kind : x.kind = y.kind
          · have b_kind : (x.kind != y.kind) = false := by simp [h_kind]
            have H_kind := Lib.hid h_kind
            clear h_kind
            have HR : Hid (decide (KLt KS x y) = Op.bytesLess x.owner y.owner) := by
              show _ = _
              have h : KLt KS x y ↔ Op.bytesLess x.owner y.owner = true := HK.out.trans (by rw [if_pos H_time.out, if_pos H_gate.out, if_pos H_number.out, if_pos H_serial.out, if_pos H_kind.out])
              rw [show decide (KLt KS x y) = decide (Op.bytesLess x.owner y.owner = true) from decide_eq_decide.mpr h]
              simp
            go_wp2_with fail
            go_ret
            exact ⟨by rw [HR.out]; rfl, HB.out⟩
          · have b_kind : (x.kind != y.kind) = true := by simp [h_kind]
            have HR : Hid (decide (KLt KS x y) = decide (x.kind < y.kind)) := by
              show _ = _
              exact decide_eq_decide.mpr (HK.out.trans (by rw [if_pos H_time.out, if_pos H_gate.out, if_pos H_number.out, if_pos H_serial.out, if_neg h_kind]))
            clear h_kind
            go_wp2_with fail
            go_ret
            exact ⟨by rw [HR.out]; rfl, HB.out⟩
        · have b_serial : (x.serial != y.serial) = true := by simp [h_serial]
          have HR : Hid (decide (KLt KS x y) = decide (x.serial < y.serial)) := by
            show _ = _
            exact decide_eq_decide.mpr (HK.out.trans (by rw [if_pos H_time.out, if_pos H_gate.out, if_pos H_number.out, if_neg h_serial]))
          clear h_serial
          go_wp2_with fail
          go_ret
          exact ⟨by rw [HR.out]; rfl, HB.out⟩
      · have b_number : (x.number != y.number) = true := by simp [h_number]
        have HR : Hid (decide (KLt KS x y) = decide (x.number < y.number)) := by
          show _ = _
          exact decide_eq_decide.mpr (HK.out.trans (by rw [if_pos H_time.out, if_pos H_gate.out, if_neg h_number]))
        clear h_number
        go_wp2_with fail
        go_ret
        exact ⟨by rw [HR.out]; rfl, HB.out⟩
    · have b_gate : (x.gate != y.gate) = true := by simp [h_gate]
      have HR : Hid (decide (KLt KS x y) = decide (x.gate < y.gate)) := by
        show _ = _
        exact decide_eq_decide.mpr (HK.out.trans (by rw [if_pos H_time.out, if_neg h_gate]))
      clear h_gate
      go_wp2_with fail
      go_ret
      exact ⟨by rw [HR.out]; rfl, HB.out⟩
  · have b_time : (x.time != y.time) = true := by simp [h_time]
    have HR : Hid (decide (KLt KS x y) = decide (x.time < y.time)) := by
      show _ = _
      exact decide_eq_decide.mpr (HK.out.trans (by rw [if_neg h_time]))
    clear h_time
    go_wp2_with fail
    go_ret
    exact ⟨by rw [HR.out]; rfl, HB.out⟩

def fewB (l : List Scn) (most : Int) : Bool := l.all (fun s => decide (s.owner.length ≤ 60)) && decide ((l.length : Int) ≤ most)
theorem fewB_iff {l : List Scn} {most : Int} : fewB l most = true ↔ (∀ s ∈ l, s.owner.length ≤ 60) ∧ (l.length : Int) ≤ most := by
  unfold fewB
  simp only [Bool.and_eq_true, decide_eq_true_eq, List.all_eq_true]

set_option maxRecDepth 10000 in
set_option maxHeartbeats 800000 in
theorem few_any (ra : Option Addr) (n c : Nat) (l : List Scn) (most : Int) (w : World) (h : Recs ScnE w ra n l) (hn : n ≤ 9223372036854775807) (ho : ∀ s ∈ l, s.owner.length ≤ 9223372036854775807) :
    Calls Try.prog 11 #[.slice ra n c, .int .i64 most] w fun e w' => e = .returned (.bool (fewB l most)) ∧ w = w' := by
  have HM := Lib.hid h
  have HO := Lib.hid ho
  have hlen := h.1
  clear h ho
  go_enter Try.func11, Try.ntmps11
  go_wp2_with fail
  go_loopw [5] (fun v5 wr => ∃ i : Nat, v5 = .int .i64 i ∧ w = wr ∧ i ≤ n ∧ Hid (∀ j (hj : j < l.length), j < i → l[j].owner.length ≤ 60)) (fun v5 _ => n - (intOf v5).toNat)
  case atStart => exact ⟨0, rfl, rfl, Nat.zero_le _, fun j _ hj => by omega⟩
  case round =>
    obtain ⟨i, rfl, rfl, hi, HW⟩ := hrel
    by_cases hlt : i < n
    · have hiE : i < l.length := by omega
      obtain ⟨b, o, rfl, c0, c1, c2, c3, c4, c5⟩ := scn_at HM.out i hlt hiE
      have hof := HO.out _ (List.getElem_mem hiE)
      have hbs := bs_size l[i].owner
      have HNO : Hid (¬ l[i].owner.length ≤ 60 → fewB l most = false) := fun h => by
        cases hh : fewB l most
        · rfl
        · exact absurd ((fewB_iff.mp hh).1 _ (List.getElem_mem hiE)) h
      have HYS : Hid (l[i].owner.length ≤ 60 → ∀ j (hj : j < l.length), j < i + 1 → l[j].owner.length ≤ 60) := fun h j hj hji => by
        by_cases e : j = i
        · subst e; exact h
        · exact HW.out j hj (by omega)
      clear c0 c1 c2 c3 c4
      generalize l[i] = s at *
      clear hiE
      by_cases h60 : s.owner.length ≤ 60
      · have HY := Lib.hid (HYS.out h60)
        have h60' : (s.owner.length : Int) ≤ 60 := by omega
        clear HYS HNO
        go_wp2_with fail
        go_roundw
        case rel => exact ⟨i + 1, by go_num, trivial, hlt, HY.out⟩
        case measure => simp [intOf]; omega
      · have HR := Lib.hid (HNO.out h60)
        have h60' : (60 : Int) < s.owner.length := by omega
        clear HYS HNO
        go_wp2_with fail
        go_ret
        exact ⟨by rw [HR.out]; rfl, rfl⟩
    · have HR : Hid (fewB l most = decide ((n : Int) ≤ most)) := by
        show _ = _
        unfold fewB
        rw [List.all_eq_true.mpr (fun x hx => by
          obtain ⟨j, hj, rfl⟩ := List.getElem_of_mem hx
          have := HW.out j hj (by omega)
          simpa using this), hlen]
        rfl
      go_wp2_with fail
      go_ret
      exact ⟨by rw [HR.out]; rfl, rfl⟩

set_option maxRecDepth 10000 in
set_option maxHeartbeats 1600000 in
theorem has_any (ra : Option Addr) (n c : Nat) (l : List Scn) (y : Scn) (w : World) (h : Recs ScnE w ra n l) (hn : n ≤ 1000000) :
    Calls Try.prog 23 #[.slice ra n c, .agg #[.int .i64 y.gate, .int .i64 y.number, .int .i64 y.time, .int .i64 y.serial, .int .i64 y.kind, .string (bs y.owner)]] w fun e w' => e = .returned (.bool (decide (y ∈ l))) ∧ Below w.heap.size w w' := by
  have HA := Lib.hid (Joins.below_alloc1 w (.cells #[.int .i64 y.gate, .int .i64 y.number, .int .i64 y.time, .int .i64 y.serial, .int .i64 y.kind, .string (bs y.owner)] 39))
  have HL := Lib.hid (h.below HA.out)
  have HX : Hid ((w.alloc (.cells #[.int .i64 y.gate, .int .i64 y.number, .int .i64 y.time, .int .i64 y.serial, .int .i64 y.kind, .string (bs y.owner)] 39)).heap[w.heap.size]? = some (.cells #[.int .i64 y.gate, .int .i64 y.number, .int .i64 y.time, .int .i64 y.serial, .int .i64 y.kind, .string (bs y.owner)] 39 (0, 0))) := World.alloc_heap_new w _
  have hlen := h.1
  clear h
  go_enter Try.func23, Try.ntmps23
  go_upto_region 1 with fail
  generalize w.alloc (.cells #[.int .i64 y.gate, .int .i64 y.number, .int .i64 y.time, .int .i64 y.serial, .int .i64 y.kind, .string (bs y.owner)] 39) = w1 at *
  go_wp2_with fail
  go_loopw [5] (fun v5 wr => ∃ i : Nat, v5 = .int .i64 i ∧ i ≤ n ∧ Hid (Quiet w1 wr) ∧ Hid (∀ j, j < i → l[j]? ≠ some y)) (fun v5 _ => n - (intOf v5).toNat)
  case atStart => exact ⟨0, rfl, Nat.zero_le _, Quiet.refl _, fun j hj => by omega⟩
  case round =>
    obtain ⟨i, rfl, hi, HQ, HW⟩ := hrel
    by_cases hlt : i < n
    · have h1 : i < l.length := by omega
      obtain ⟨b1, o1, rfl, c0, c1, c2, c3, c4, c5⟩ := scn_at (HL.out.below HQ.out.below) i hlt h1
      have HX1 : Hid (l[i]? = some l[i]) := List.getElem?_eq_getElem h1
      have HXr := (HQ.out.below.block _ (lt_of_block HX.out)).trans HX.out
      generalize l[i] = x at *
      clear h1
      have d0 : wr.cell? ⟨w.heap.size, 0, none⟩ = some (.int .i64 y.gate) := by rw [cell_of_row _ _ _ _ _ _ HXr]; rfl
      have d1 : wr.cell? ⟨w.heap.size, 1, none⟩ = some (.int .i64 y.number) := by rw [cell_of_row _ _ _ _ _ _ HXr]; rfl
      have d2 : wr.cell? ⟨w.heap.size, 2, none⟩ = some (.int .i64 y.time) := by rw [cell_of_row _ _ _ _ _ _ HXr]; rfl
      have d3 : wr.cell? ⟨w.heap.size, 3, none⟩ = some (.int .i64 y.serial) := by rw [cell_of_row _ _ _ _ _ _ HXr]; rfl
      have d4 : wr.cell? ⟨w.heap.size, 4, none⟩ = some (.int .i64 y.kind) := by rw [cell_of_row _ _ _ _ _ _ HXr]; rfl
      have d5 : wr.cell? ⟨w.heap.size, 5, none⟩ = some (.string (bs y.owner)) := by rw [cell_of_row _ _ _ _ _ _ HXr]; rfl
      have hgd := fun (p q : Operand) (wx : World) => guard_scn .eql p q x y wx
      clear HXr
      by_cases hxy : x = y
      · have heq : ∀ wx, Sem.run Try.prog (binOp .eql 39 (.agg #[.int .i64 x.gate, .int .i64 x.number, .int .i64 x.time, .int .i64 x.serial, .int .i64 x.kind, .string (bs x.owner)]) (.agg #[.int .i64 y.gate, .int .i64 y.number, .int .i64 y.time, .int .i64 y.serial, .int .i64 y.kind, .string (bs y.owner)])) wx = .ok (.bool true) wx := fun wx => by rw [eql_scn, hxy]; simp
        have HR : Hid (y ∈ l) := by
          have := HX1.out
          rw [hxy] at this
          exact List.mem_of_getElem? this
        clear hxy HX1 HW
        go_upto_region 4 with fail
        go_region
        go_wp2_with fail
        go_ret
        exact ⟨by simp [HR.out], below_q HA.out HQ.out.next⟩
      · have heq : ∀ wx, Sem.run Try.prog (binOp .eql 39 (.agg #[.int .i64 x.gate, .int .i64 x.number, .int .i64 x.time, .int .i64 x.serial, .int .i64 x.kind, .string (bs x.owner)]) (.agg #[.int .i64 y.gate, .int .i64 y.number, .int .i64 y.time, .int .i64 y.serial, .int .i64 y.kind, .string (bs y.owner)])) wx = .ok (.bool false) wx := fun wx => by rw [eql_scn]; simp [hxy]
        have HN : Hid (∀ j, j < i + 1 → l[j]? ≠ some y) := fun j hj => by
          by_cases e : j = i
          · rw [e, HX1.out]; exact fun h => hxy (Option.some.inj h)
          · exact HW.out j (by omega)
        clear hxy HX1 HW
        go_upto_region 4 with fail
        go_region
        go_wp2_with fail
        go_roundw
        case rel => exact ⟨i + 1, by go_num, hlt, HQ.out.next, HN⟩
        case measure => simp [intOf]; omega
    · have HR : Hid (y ∉ l) := fun hm => by
        obtain ⟨j, hj, e⟩ := List.getElem_of_mem hm
        exact HW.out j (by omega) (by rw [List.getElem?_eq_getElem hj, e])
      go_wp2_with fail
      go_ret
      exact ⟨by simp [HR.out], below_q HA.out HQ.out⟩
end Go.Proofs.Ytpmoelkblngamaa
