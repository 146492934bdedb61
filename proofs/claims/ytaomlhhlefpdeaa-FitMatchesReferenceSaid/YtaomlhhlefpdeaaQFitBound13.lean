/- greedy.seat. -/
import Derived.Test.YtaomlhhlefpdeaaQFitBound12
import Derived.StillTailTactics

namespace Go.Proofs.Ytaomlhhlefpdeaa
open Go.RowKit

/-- A block of cells that holds pairs of integers. -/
def PairRow (w : World) (g : Nat) (T : TypeId) (S : List (Int × Int)) : Prop :=
  ∃ arr : Array Value, w.heap[g]? = some (.cells arr T (0, 0)) ∧ S.length * 2 ≤ arr.size ∧ ∀ k, k < S.length → arr[k * 2]? = some (.int .i64 (gs S k)) ∧ arr[k * 2 + 1]? = some (.int .i64 (gv S k))

theorem PairRow.lt {w : World} {g : Nat} {T : TypeId} {S : List (Int × Int)} (h : PairRow w g T S) : g < w.heap.size :=
  let ⟨_, e, _⟩ := h; lt_of_block e

theorem PairRow.of_heap {w w' : World} {g : Nat} {T : TypeId} {S : List (Int × Int)} (h : PairRow w g T S) (e : w'.heap[g]? = w.heap[g]?) : PairRow w' g T S := by
  obtain ⟨arr, e1, r⟩ := h
  exact ⟨arr, e.trans e1, r⟩

theorem IntRow.of_heap {w w' : World} {g : Nat} {T : TypeId} {S : List Int} (h : IntRow w g T S) (e : w'.heap[g]? = w.heap[g]?) : IntRow w' g T S := by
  obtain ⟨arr, e1, r⟩ := h
  exact ⟨arr, e.trans e1, r⟩

theorem PairRow.cell1 {w : World} {g : Nat} {T : TypeId} {S : List (Int × Int)} (h : PairRow w g T S) (k : Nat) (hk : k < S.length) : w.cell? ⟨g, k * 2, none⟩ = some (.int .i64 (gs S k)) := by
  obtain ⟨arr, e, _, c⟩ := h
  simp only [World.cell?, e]
  exact (c k hk).1

theorem PairRow.cell2 {w : World} {g : Nat} {T : TypeId} {S : List (Int × Int)} (h : PairRow w g T S) (k : Nat) (hk : k < S.length) : w.cell? ⟨g, k * 2 + 1, none⟩ = some (.int .i64 (gv S k)) := by
  obtain ⟨arr, e, _, c⟩ := h
  simp only [World.cell?, e]
  exact (c k hk).2

theorem PairRow.free {w : World} {g : Nat} {T : TypeId} {S : List (Int × Int)} (h : PairRow w g T S) (k : Nat) : w.frozen? ⟨g, k, none⟩ = false := by
  obtain ⟨arr, e, _, c⟩ := h
  simp only [World.frozen?, e]
  simp

theorem gs_set (S : List (Int × Int)) (i j : Nat) (v : Int × Int) (hi : i < S.length) : gs (S.set i v) j = if i = j then v.1 else gs S j := by
  unfold gs
  simp only [List.getD_eq_getElem?_getD, List.getElem?_set, hi, if_true]
  split <;> rfl

theorem gv_set (S : List (Int × Int)) (i j : Nat) (v : Int × Int) (hi : i < S.length) : gv (S.set i v) j = if i = j then v.2 else gv S j := by
  unfold gv
  simp only [List.getD_eq_getElem?_getD, List.getElem?_set, hi, if_true]
  split <;> rfl

theorem PairRow.set1 {w : World} {g : Nat} {T : TypeId} {S : List (Int × Int)} (h : PairRow w g T S) (i : Nat) (hi : i < S.length) (v : Int) : PairRow (w.setCell ⟨g, i * 2, none⟩ (.int .i64 v)) g T (S.set i (v, gv S i)) := by
  obtain ⟨arr, e, s, c⟩ := h
  refine ⟨arr.setIfInBounds (i * 2) (.int .i64 v), ?_, by simpa using s, fun k hk => ?_⟩
  · simp [World.setCell, Array.getElem?_modify, e]
  · rw [List.length_set] at hk
    rw [Array.getElem?_setIfInBounds, Array.getElem?_setIfInBounds, gs_set _ _ _ _ hi, gv_set _ _ _ _ hi]
    by_cases hik : i = k
    · subst hik
      rw [if_pos rfl, if_pos rfl, if_pos (by omega), if_pos rfl, if_neg (by omega)]
      exact ⟨rfl, (c i hk).2⟩
    · rw [if_neg (by omega), if_neg hik, if_neg (by omega), if_neg hik]; exact c k hk

theorem PairRow.set2 {w : World} {g : Nat} {T : TypeId} {S : List (Int × Int)} (h : PairRow w g T S) (i : Nat) (hi : i < S.length) (v : Int) : PairRow (w.setCell ⟨g, i * 2 + 1, none⟩ (.int .i64 v)) g T (S.set i (gs S i, v)) := by
  obtain ⟨arr, e, s, c⟩ := h
  refine ⟨arr.setIfInBounds (i * 2 + 1) (.int .i64 v), ?_, by simpa using s, fun k hk => ?_⟩
  · simp [World.setCell, Array.getElem?_modify, e]
  · rw [List.length_set] at hk
    rw [Array.getElem?_setIfInBounds, Array.getElem?_setIfInBounds, gs_set _ _ _ _ hi, gv_set _ _ _ _ hi]
    by_cases hik : i = k
    · subst hik
      rw [if_neg (by omega), if_pos rfl, if_pos rfl, if_pos (by omega), if_pos rfl]
      exact ⟨(c i hk).1, rfl⟩
    · rw [if_neg (by omega), if_neg hik, if_neg (by omega), if_neg hik]; exact c k hk

theorem PairRow.pairs {w : World} {g : Nat} {T : TypeId} {S : List (Int × Int)} (h : PairRow w g T S) : Pairs w (some ⟨g, 0, none⟩) S.length S :=
  ⟨rfl, fun k hk => ⟨g, 0, rfl, by rw [Nat.zero_add]; exact h.cell1 k hk, by rw [Nat.zero_add]; exact h.cell2 k hk⟩⟩

theorem make_spots (n : Nat) (hn : n ≤ 4000) : ∃ arr : Array Value, arr.size = n * 2 ∧ (∀ k, k < n * 2 → arr[k]? = some (.int .i64 0)) ∧
    ∀ w : World, (Instr.makeSlice 28 (.int .i64 (n : Int)) (.int .i64 (n : Int))).run Try.prog w = .ok (.slice (some ⟨w.heap.size, 0, none⟩) n n) (w.alloc (.cells arr 39)) := by
  have hinfo : (Try.prog.info? 39).map (fun i => (i.zero, i.size, i.bytes)) = some (some (.agg #[.int .i64 0, .int .i64 0]), 2, 16) := by kernel_rfl
  obtain ⟨i, hi, hzz⟩ := Option.map_eq_some_iff.1 hinfo
  simp only [Prod.mk.injEq] at hzz
  obtain ⟨hz, hs, hb⟩ := hzz
  refine ⟨madeCells #[.int .i64 0, .int .i64 0] (n * 2), size_madeCells _ _, fun k hk => ?_, fun w => ?_⟩
  · simp only [madeCells, Array.getElem?_map, Array.getElem?_range, hk]
    rcases Nat.mod_two_eq_zero_or_one k with h | h <;> simp [h]
  · have h := run_make (P := Try.prog) w 28 39 i (.agg #[.int .i64 0, .int .i64 0]) Try.underlying28 hi hz .i64 .i64 n n (by omega) (Int.le_refl _) (by rw [hb]; omega) (by omega)
    rw [hs] at h
    simpa [Value.cells] using h

theorem PairRow.made {w : World} {arr : Array Value} {T : TypeId} {n g : Nat} (hg : g = w.heap.size) (hs : arr.size = n * 2) (hz : ∀ k, k < n * 2 → arr[k]? = some (.int .i64 0)) : PairRow (w.alloc (.cells arr T)) g T (List.replicate n (0, 0)) := by
  subst hg
  refine ⟨arr, ?_, by simp [hs], fun k hk => ?_⟩
  · show (w.heap.push _)[w.heap.size]? = _
    simp
  · rw [List.length_replicate] at hk
    rw [hz _ (by omega), hz _ (by omega)]
    simp [gs, gv, List.getD_eq_getElem?_getD, hk]

def Box (w : World) (b : Nat) (T : TypeId) (vs : Array Value) : Prop := w.heap[b]? = some (.cells vs T (0, 0))

theorem Box.cell {w : World} {b : Nat} {T : TypeId} {vs : Array Value} (h : Box w b T vs) (k : Nat) : w.cell? ⟨b, k, none⟩ = vs[k]? := by
  unfold Box at h
  simp only [World.cell?, h]
  simp

theorem Box.free {w : World} {b : Nat} {T : TypeId} {vs : Array Value} (h : Box w b T vs) (k : Nat) : w.frozen? ⟨b, k, none⟩ = false := by
  unfold Box at h
  simp only [World.frozen?, h]
  simp

theorem Box.of_heap {w w' : World} {b : Nat} {T : TypeId} {vs : Array Value} (h : Box w b T vs) (e : w'.heap[b]? = w.heap[b]?) : Box w' b T vs := e.trans h

theorem Box.new {w : World} {b : Nat} {T : TypeId} {vs : Array Value} (hb : b = w.heap.size) : Box (w.alloc (.cells vs T)) b T vs := by
  subst hb
  show (w.heap.push _)[w.heap.size]? = _
  simp

theorem Box.alloc {w : World} {b : Nat} {T : TypeId} {vs : Array Value} (h : Box w b T vs) (o : Obj) : Box (w.alloc o) b T vs :=
  h.of_heap (Below.heap_alloc _ _ _ (lt_of_block h))

theorem Box.below {w w' : World} {b : Nat} {T : TypeId} {vs : Array Value} (h : Box w b T vs) (hb : Below w.heap.size w w') : Box w' b T vs :=
  h.of_heap (hb.block _ (lt_of_block h))

theorem Box.set {w : World} {b : Nat} {T : TypeId} {vs : Array Value} (h : Box w b T vs) (k : Nat) (v : Value) : Box (w.setCell ⟨b, k, none⟩ v) b T (vs.setIfInBounds k v) := by
  unfold Box at *
  simp [World.setCell, Array.getElem?_modify, h]

theorem heap_set {w : World} {b k : Nat} {v : Value} (g : Nat) (h : g ≠ b) : (w.setCell ⟨b, k, none⟩ v).heap[g]? = w.heap[g]? := Below.heap_setCell _ _ _ _ h

theorem firstAt_cases (p : Nat → Bool) (n : Nat) : ∀ k, firstAt p k n = -1 ∨ ∃ j, k ≤ j ∧ j < k + n ∧ firstAt p k n = j ∧ p j = true := by
  induction n with
  | zero => intro k; exact .inl rfl
  | succ n ih =>
    intro k
    rw [firstAt]
    cases h : p k
    · rcases ih (k + 1) with h1 | ⟨j, h1, h2, h3, h4⟩
      · exact .inl (by simpa using h1)
      · exact .inr ⟨j, by omega, by omega, by simpa using h3, h4⟩
    · exact .inr ⟨k, Nat.le_refl _, by omega, by simp, h⟩

theorem Pairs.set_other {w : World} {ra : Option Addr} {n b i : Nat} {xs : List (Int × Int)} {v : Value} (h : Pairs w ra n xs) (hne : ∀ q, ra = some q → q.block ≠ b) : Pairs (w.setCell ⟨b, i, none⟩ v) ra n xs :=
  ⟨h.1, fun k hk => by
    obtain ⟨b', o, e, c, d⟩ := h.2 k hk
    have hb : b' ≠ b := hne _ e
    refine ⟨b', o, e, ?_, ?_⟩
    · rw [World.cell?_of_block (w := w) (Below.heap_setCell _ _ _ _ hb)]; exact c
    · rw [World.cell?_of_block (w := w) (Below.heap_setCell _ _ _ _ hb)]; exact d⟩

structure PackSt where
  left : List Int
  spots : List (Int × Int)
  value : Int

/-- The first run in which a group has room; -1 if there is none. -/
def firstFit (single : Bool) (L : List Int) (s : Int) (n : Nat) : Int := firstAt (fun k => fits single (ix L k - s)) 0 n

/-- One group is seated. -/
def seatStep (single : Bool) (R : List Int) (G : List (Int × Int)) (st : PackSt) (x : Int) : PackSt :=
  if 0 ≤ firstFit single st.left (gs G x.toNat) R.length then
    ⟨st.left.set (firstFit single st.left (gs G x.toNat) R.length).toNat (ix st.left (firstFit single st.left (gs G x.toNat) R.length).toNat - gs G x.toNat),
      st.spots.set x.toNat (firstFit single st.left (gs G x.toNat) R.length, ix R (firstFit single st.left (gs G x.toNat) R.length).toNat - ix st.left (firstFit single st.left (gs G x.toNat) R.length).toNat),
      st.value + gs G x.toNat * gv G x.toNat⟩
  else ⟨st.left, st.spots.set x.toNat (firstFit single st.left (gs G x.toNat) R.length, gv st.spots x.toNat), st.value⟩

/-- The groups seated one after the other. -/
def seatS (single : Bool) (R : List Int) (G : List (Int × Int)) (O : List Int) : PackSt :=
  O.foldl (seatStep single R G) ⟨R, List.replicate G.length (0, 0), 0⟩

set_option maxRecDepth 10000 in
set_option maxHeartbeats 1600000 in
theorem seat_any (ra ga oa : Option Addr) (n c m d no oc : Nat) (single : Bool) (R O : List Int) (G : List (Int × Int)) (w : World)
    (hn : n ≤ 4000) (hm : m ≤ 4000) (hno : no ≤ 4000) (hc : ra = none → c = 0) (hR : Ints w ra n R) (hG : Pairs w ga m G) (hO : Ints w oa no O) (hv : ValuesOk G) (hr : ∀ k, k < n → 1 ≤ ix R k ∧ ix R k ≤ 4000) (hx : ∀ x ∈ O, 0 ≤ x ∧ x < m) :
    Calls Try.prog 35 #[.agg #[.slice ra n c, .slice ga m d, .bool single], .slice oa no oc] w fun e w' => ∃ sa c', e = .returned (.agg #[.slice sa m c', .int .i64 (seatS single R G O).value]) ∧ Below w.heap.size w w' ∧ Pairs w' sa m (seatS single R G O).spots ∧ ∀ q, sa = some q → w.heap.size ≤ q.block := by
  obtain ⟨arr, hs, hz, hmk⟩ := make_spots m hm
  have HR := Lib.hid hR; have HG := Lib.hid hG; have HO := Lib.hid hO; have HV := Lib.hid hv; have HRB := Lib.hid hr; have HX := Lib.hid hx; have HCC := Lib.hid hc
  clear hR hG hO hv hr hx hc
  go_enter Try.func35, Try.ntmps35
  go_wp2_with fail
  refine (clone_any ra n c R _ hn (HR.out.below (((Below.refl _ _).alloc (Nat.le_refl _) _).alloc (by simp) _)) HCC.out).mono ?_
  rintro e w1 ⟨la, lc, rfl, hb1, ho⟩
  have x0 : w1.cell? ⟨w.heap.size, 0, none⟩ = some (.slice ra n c) := Below.cell_of hb1 (by simp [go_sem])
  have x1 : w1.cell? ⟨w.heap.size, 1, none⟩ = some (.slice ga m d) := Below.cell_of hb1 (by simp [go_sem])
  have x2 : w1.cell? ⟨w.heap.size, 2, none⟩ = some (.bool single) := Below.cell_of hb1 (by simp [go_sem])
  have HLA : Hid (R.length = n ∧ (0 < n → ∃ g, la = some ⟨g, 0, none⟩ ∧ w.heap.size + 2 ≤ g ∧ g < w1.heap.size)) := ⟨ho.1, fun h => by
    obtain ⟨g, e, h1, h2⟩ := ho.2 h
    exact ⟨g, e, by simpa using h1, h2.lt⟩⟩
  have hrow : Hid (0 < n → ∀ g, la = some ⟨g, 0, none⟩ → IntRow ((w1.alloc (.cells arr 39)).alloc (.cells #[.slice (some ⟨w1.heap.size, 0, none⟩) m m, .int .i64 0] 30)) g 3 R) := by
    intro h g e
    obtain ⟨g', e', _, h2⟩ := ho.2 h
    rw [e] at e'
    simp at e'
    subst e'
    exact h2.of_heap (by rw [Below.heap_alloc _ _ _ (by have := h2.lt; simp; omega), Below.heap_alloc _ _ _ h2.lt])
  have hprow : Hid (PairRow ((w1.alloc (.cells arr 39)).alloc (.cells #[.slice (some ⟨w1.heap.size, 0, none⟩) m m, .int .i64 0] 30)) w1.heap.size 39 (List.replicate m (0, 0))) :=
    (PairRow.made (w := w1) (T := 39) rfl hs hz).of_heap (by rw [Below.heap_alloc _ _ _ (by simp)])
  have hszw : Hid (w.heap.size + 2 ≤ w1.heap.size) := by have := hb1.size; simpa [Hid] using this
  have hbx : Hid (Box w1 w.heap.size 25 #[.slice ra n c, .slice ga m d, .bool single] ∧ Box w1 (w.heap.size + 1) 30 #[.slice none 0 0, .int .i64 0]) :=
    ⟨((Box.new rfl).alloc _).below hb1, (Box.new (by simp)).below hb1⟩
  have hbw : Hid (Below w.heap.size w w1) := (((Below.refl _ _).alloc (Nat.le_refl _) _).alloc (by simp) _).trans (hb1.mono (by simp; omega))
  clear hb1 ho hs hz
  have x1 := hbx.out.1.cell 1
  simp only [List.getElem?_toArray, List.getElem?_cons_succ, List.getElem?_cons_zero] at x1
  go_wp2
  go_loopw [8, 9, 10, 21] (fun _ _ _ v21 wr => ∃ (i : Nat) (L : List Int) (S : List (Int × Int)) (V : Int), v21 = .int .i64 i ∧ i ≤ no ∧ 0 ≤ V ∧ V ≤ 12000000 * i ∧ Hid (seatS single R G O = (O.drop i).foldl (seatStep single R G) ⟨L, S, V⟩) ∧
      Hid (L.length = n ∧ S.length = m ∧ ∀ k, k < n → 0 ≤ ix L k ∧ ix L k ≤ 4000) ∧ Hid (0 < n → ∀ g, la = some ⟨g, 0, none⟩ → IntRow wr g 3 L) ∧ Hid (PairRow wr w1.heap.size 39 S) ∧
      Hid (Box wr w.heap.size 25 #[.slice ra n c, .slice ga m d, .bool single] ∧ Box wr (w.heap.size + 1) 30 #[.slice none 0 0, .int .i64 0] ∧ Box wr (w1.heap.size + 1) 30 #[.slice (some ⟨w1.heap.size, 0, none⟩) m m, .int .i64 V]) ∧
      Hid (w1.heap.size + 2 ≤ wr.heap.size) ∧ Hid (Below w.heap.size w wr))
    (fun _ _ _ v21 _ => no - (intOf v21).toNat)
  case atStart => exact ⟨0, R, List.replicate m (0, 0), 0, rfl, Nat.zero_le _, by omega, by omega, by simp [Hid, seatS, HG.out.1], ⟨HLA.out.1, by simp, fun k hk => by have := HRB.out k hk; omega⟩, hrow, hprow, ⟨(hbx.out.1.alloc _).alloc _, (hbx.out.2.alloc _).alloc _, Box.new (by simp)⟩, by simp [Hid],
    ((hbw.out.alloc hbw.out.size _).alloc (by have := hszw.out; simp; omega) _)⟩
  case round =>
    clear hrow hprow hbx x1 hmk
    obtain ⟨i, L, S, V, rfl, hi, hV0, hV1, HF, HL, HROW, HPR, HBX, HSZ, HB⟩ := hrel
    by_cases hlt : i < no
    · obtain ⟨bo, oo, rfl, c0⟩ := (HO.out.below HB.out).2 i hlt
      have hd := drop_ix O i (by rw [HO.out.1]; exact hlt)
      have hx := HX.out (ix O i) (by
        have hlt' : i < O.length := by rw [HO.out.1]; exact hlt
        simp [ix, List.getD_eq_getElem?_getD, hlt'])
      obtain ⟨x, hxx⟩ : ∃ x : Nat, (x : Int) = ix O i := ⟨(ix O i).toNat, by omega⟩
      rw [← hxx] at c0 hd hx
      have hxm : x < m := by omega
      obtain ⟨bg, og, rfl, c1, c2⟩ := (HG.out.below HB.out).2 x hxm
      have hv := HV.out x (by rw [HG.out.1]; exact hxm)
      have HD := Lib.hid hd
      have p1 := HBX.out.1.cell 1
      simp only [List.getElem?_toArray, List.getElem?_cons_succ, List.getElem?_cons_zero] at p1
      obtain ⟨s, hs⟩ : ∃ s, s = gs G x := ⟨_, rfl⟩
      obtain ⟨v, hvv⟩ : ∃ v, v = gv G x := ⟨_, rfl⟩
      rw [← hs] at c1 hv; rw [← hvv] at c2 hv
      have Hs := Lib.hid hs; have Hv := Lib.hid hvv
      clear hs hvv hd hx hxx
      have hidx := fun wz hL hcl => index_ints 63 #[.pointer (some ⟨wr.heap.size, 0, none⟩), .pointer (some ⟨w.heap.size, 0, none⟩)] (fun z => fits single (z - s)) la n lc L wz hn enter_seat1 hL hcl
      have hLi : Hid (Ints (wr.alloc (.cells #[.int .i64 s, .int .i64 v] 37)) la n L) := ⟨HL.out.1, fun k hk => by
        obtain ⟨g, e, _, _⟩ := HLA.out.2 (by omega)
        have h := (HROW.out (by omega) g e).of_heap (w' := wr.alloc (.cells #[.int .i64 s, .int .i64 v] 37)) (Below.heap_alloc _ _ _ (HROW.out (by omega) g e).lt)
        exact ⟨g, 0, e, by rw [Nat.zero_add]; exact h.cell k (by rw [HL.out.1]; exact hk)⟩⟩
      have hcl : Hid (∀ k wr', Below (wr.alloc (.cells #[.int .i64 s, .int .i64 v] 37)).heap.size (wr.alloc (.cells #[.int .i64 s, .int .i64 v] 37)) wr' → k < n →
          Calls Try.prog 63 (#[.int .i64 (ix L k)] ++ #[.pointer (some ⟨wr.heap.size, 0, none⟩), .pointer (some ⟨w.heap.size, 0, none⟩)]) wr' fun e w' => e = .returned (.bool (fits single (ix L k - s))) ∧ Below wr'.heap.size wr' w') := by
        intro k wr' hb hk
        have hg : wr'.cell? ⟨wr.heap.size, 0, none⟩ = some (.int .i64 s) := Below.cell_of hb (by simp [go_sem])
        have hp : wr'.cell? ⟨w.heap.size, 2, none⟩ = some (.bool single) := by rw [((HBX.out.1.alloc _).below hb).cell 2]; rfl
        refine (by simpa using (seat1_any (ix L k) s single wr.heap.size w.heap.size wr' (HL.out.2.2 k hk) hv.1 hg hp) : Calls _ _ _ _ _).mono ?_
        rintro e w' ⟨rfl, rfl⟩
        exact ⟨rfl, Below.refl _ _⟩
      have HIDX := Lib.hid (hidx _ hLi.out hcl.out)
      clear hidx hLi hcl
      go_wp2_with fail
      refine HIDX.out.mono ?_
      rintro e w2 ⟨rfl, hb2⟩
      have hk2 : Hid (∀ g, g < wr.heap.size → w2.heap[g]? = wr.heap[g]?) := fun g hg => (hb2.block g (by simp; omega)).trans (Below.heap_alloc _ _ _ hg)
      have HROW2 : Hid (0 < n → ∀ g, la = some ⟨g, 0, none⟩ → IntRow w2 g 3 L) := fun h g e => (HROW.out h g e).of_heap (hk2.out g (HROW.out h g e).lt)
      have HPR2 : Hid (PairRow w2 w1.heap.size 39 S) := HPR.out.of_heap (hk2.out _ HPR.out.lt)
      have HBX2 : Hid (Box w2 w.heap.size 25 #[.slice ra n c, .slice (some ⟨bg, og, none⟩) m d, .bool single] ∧ Box w2 (w.heap.size + 1) 30 #[.slice none 0 0, .int .i64 0] ∧ Box w2 (w1.heap.size + 1) 30 #[.slice (some ⟨w1.heap.size, 0, none⟩) m m, .int .i64 V] ∧
          Box w2 wr.heap.size 37 #[.int .i64 s, .int .i64 v]) :=
        ⟨HBX.out.1.of_heap (hk2.out _ (lt_of_block HBX.out.1)), HBX.out.2.1.of_heap (hk2.out _ (lt_of_block HBX.out.2.1)), HBX.out.2.2.of_heap (hk2.out _ (lt_of_block HBX.out.2.2)), (Box.new rfl).below hb2⟩
      have HB2 : Hid (Below w.heap.size w w2) := (HB.out.alloc HB.out.size _).trans (hb2.mono (by have := HB.out.size; simp; omega))
      have HSZ2 : Hid (w1.heap.size + 2 ≤ wr.heap.size ∧ wr.heap.size + 1 ≤ w2.heap.size) := ⟨HSZ.out, by have := hb2.size; simpa using this⟩
      have HFF : Hid (firstFit single L s R.length = firstAt (fun k => fits single (ix L k - s)) 0 n) := by rw [HLA.out.1]; rfl
      have q0 := HBX2.out.2.2.1.cell 0
      simp only [List.getElem?_toArray, List.getElem?_cons_zero] at q0
      have q1 := HPR2.out.cell1 x (by rw [HL.out.2.1]; exact hxm)
      have qf := HPR2.out.free (x * 2)
      have hbv := hv
      clear hb2 c0 c1 c2 p1 HIDX hk2
      have hr := firstAt_cases (fun k => fits single (ix L k - s)) n 0
      generalize firstAt (fun k => fits single (ix L k - s)) 0 n = r at *
      rcases hr with hr | ⟨j, _, hj, hr, hfit⟩
      · subst hr
        have HW : Hid (PairRow (w2.setCell ⟨w1.heap.size, x * 2, none⟩ (.int .i64 (-1))) w1.heap.size 39 (S.set x (-1, gv S x))) := HPR2.out.set1 x (by rw [HL.out.2.1]; exact hxm) (-1)
        go_wp2
        go_roundw
        case rel => exact ⟨i + 1, L, S.set x (-1, gv S x), V, by go_num, by omega, hV0, by omega, by
            rw [HF.out, HD.out]; simp only [Hid, List.foldl_cons, seatStep]; rw [Int.toNat_natCast, ← Hs.out, HFF.out]; simp,
          ⟨HL.out.1, by rw [List.length_set]; exact HL.out.2.1, HL.out.2.2⟩, fun h g e => (HROW2.out h g e).of_heap (heap_set g (by obtain ⟨g', e', _, h2⟩ := HLA.out.2 h; rw [e] at e'; simp at e'; omega)),
          HW, ⟨HBX2.out.1.of_heap (heap_set _ (by have := hszw.out; omega)), HBX2.out.2.1.of_heap (heap_set _ (by have := hszw.out; omega)), HBX2.out.2.2.1.of_heap (heap_set _ (by omega))⟩,
          by have := HSZ2.out; simp [Hid, World.setCell]; omega, HB2.out.setCell (by have := hszw.out; simp; omega) _⟩
        case measure => simp [intOf]; omega
      · subst hr
        go_wp2_with fail
        have hjn : j < n := by omega
        have hne : Hid (∀ g, la = some ⟨g, 0, none⟩ → w.heap.size + 2 ≤ g ∧ g < w1.heap.size) := fun g e => by obtain ⟨g', e', h1, h2⟩ := HLA.out.2 (by omega); rw [e] at e'; simp at e'; omega
        have HPR3 : Hid (PairRow (w2.setCell ⟨w1.heap.size, x * 2, none⟩ (.int .i64 (j : Int))) w1.heap.size 39 (S.set x ((j : Int), gv S x))) := HPR2.out.set1 x (by rw [HL.out.2.1]; exact hxm) j
        have hk3 : Hid (∀ g, g ≠ w1.heap.size → (w2.setCell ⟨w1.heap.size, x * 2, none⟩ (.int .i64 (j : Int))).heap[g]? = w2.heap[g]?) := fun g hg => heap_set g hg
        have HB3 : Hid (Below w.heap.size w (w2.setCell ⟨w1.heap.size, x * 2, none⟩ (.int .i64 (j : Int)))) := HB2.out.setCell (by have := hszw.out; simp; omega) _
        have hs3 : Hid ((w2.setCell ⟨w1.heap.size, x * 2, none⟩ (.int .i64 (j : Int))).heap.size = w2.heap.size) := by simp [Hid, World.setCell]
        generalize (w2.setCell ⟨w1.heap.size, x * 2, none⟩ (.int .i64 (j : Int))) = w3 at *
        have HROW3 : Hid (∀ g, la = some ⟨g, 0, none⟩ → IntRow w3 g 3 L) := fun g e => (HROW2.out (by omega) g e).of_heap (hk3.out g (by have := hne.out g e; omega))
        have HBX3 : Hid (Box w3 w.heap.size 25 #[.slice ra n c, .slice (some ⟨bg, og, none⟩) m d, .bool single] ∧ Box w3 (w.heap.size + 1) 30 #[.slice none 0 0, .int .i64 0] ∧ Box w3 (w1.heap.size + 1) 30 #[.slice (some ⟨w1.heap.size, 0, none⟩) m m, .int .i64 V] ∧
          Box w3 wr.heap.size 37 #[.int .i64 s, .int .i64 v]) := ⟨HBX2.out.1.of_heap (hk3.out _ (by have := hszw.out; omega)), HBX2.out.2.1.of_heap (hk3.out _ (by have := hszw.out; omega)), HBX2.out.2.2.1.of_heap (hk3.out _ (by omega)), HBX2.out.2.2.2.of_heap (hk3.out _ (by have := HSZ2.out; omega))⟩
        clear q0 q1 qf HROW2 HPR2 HBX2 HB2 hk3
        obtain ⟨g, hg, hg1, hg2⟩ := HLA.out.2 (by omega)
        have HROW4 := Lib.hid (HROW3.out g hg)
        obtain ⟨rb, ro, rfl, cR⟩ := (HR.out.below HB3.out).2 j hjn
        have cL := HROW4.out.cell j (by rw [HL.out.1]; exact hjn)
        have bR := HRB.out j hjn
        have bL := HL.out.2.2 j hjn
        have q0 := HBX3.out.2.2.1.cell 0
        have p0 := HBX3.out.1.cell 0
        simp only [List.getElem?_toArray, List.getElem?_cons_zero] at q0 p0
        have q2 := HPR3.out.cell2 x (by rw [List.length_set, HL.out.2.1]; exact hxm)
        have qf2 := HPR3.out.free (x * 2 + 1)
        have hgla := Lib.hid hg
        subst hg
        clear HROW3
        obtain ⟨a, ha⟩ : ∃ a, a = ix R j := ⟨_, rfl⟩
        obtain ⟨l, hl⟩ : ∃ a, a = ix L j := ⟨_, rfl⟩
        rw [← ha] at cR bR; rw [← hl] at cL bL
        have Ha := Lib.hid ha; have Hl := Lib.hid hl
        clear ha hl
        have hfit2 : s ≤ l := by have := hfit; rw [← Hl.out] at this; simp [fits] at this; omega
        clear hfit
        go_still_tail 15, (by kernel_rfl)
        change wpList _ _ _ _ _ w3.drew
        go_wp2_with fail
        have hS2 : Hid ((S.set x ((j : Int), gv S x)).set x (gs (S.set x ((j : Int), gv S x)) x, a - l) = S.set x ((j : Int), a - l)) := by
          rw [gs_set _ _ _ _ (by rw [HL.out.2.1]; exact hxm), if_pos rfl]; simp [Hid]
        have HPR4 : Hid (PairRow (w3.setCell ⟨w1.heap.size, x * 2 + 1, none⟩ (.int .i64 (a - l))).drew w1.heap.size 39 (S.set x ((j : Int), a - l))) := by
          have := PairRow.set2 (w := w3) HPR3.out x (by rw [List.length_set, HL.out.2.1]; exact hxm) (a - l)
          rw [hS2.out] at this; exact this
        have hk4 : Hid (∀ g, g ≠ w1.heap.size → (w3.setCell ⟨w1.heap.size, x * 2 + 1, none⟩ (.int .i64 (a - l))).drew.heap[g]? = w3.heap[g]?) := fun g hg => heap_set (w := w3) g hg
        have HB4 : Hid (Below w.heap.size w (w3.setCell ⟨w1.heap.size, x * 2 + 1, none⟩ (.int .i64 (a - l))).drew) := (HB3.out.setCell (by have := hszw.out; simp; omega) _).drew
        have hs4 : Hid ((w3.setCell ⟨w1.heap.size, x * 2 + 1, none⟩ (.int .i64 (a - l))).drew.heap.size = w3.heap.size) := by simp [Hid, World.setCell]
        generalize (w3.setCell ⟨w1.heap.size, x * 2 + 1, none⟩ (.int .i64 (a - l))).drew = w4 at *
        have HROW5 : Hid (IntRow w4 g 3 L) := HROW4.out.of_heap (hk4.out g (by omega))
        have HBX4 : Hid (Box w4 w.heap.size 25 #[.slice (some ⟨rb, ro, none⟩) n c, .slice (some ⟨bg, og, none⟩) m d, .bool single] ∧ Box w4 (w.heap.size + 1) 30 #[.slice none 0 0, .int .i64 0] ∧ Box w4 (w1.heap.size + 1) 30 #[.slice (some ⟨w1.heap.size, 0, none⟩) m m, .int .i64 V] ∧
          Box w4 wr.heap.size 37 #[.int .i64 s, .int .i64 v]) := ⟨HBX3.out.1.of_heap (hk4.out _ (by have := hszw.out; omega)), HBX3.out.2.1.of_heap (hk4.out _ (by have := hszw.out; omega)), HBX3.out.2.2.1.of_heap (hk4.out _ (by omega)), HBX3.out.2.2.2.of_heap (hk4.out _ (by have := HSZ2.out; omega))⟩
        clear q0 p0 q2 qf2 cR cL HROW4 HPR3 HBX3 HB3 hk4 hS2
        have cL := HROW5.out.cell j (by rw [HL.out.1]; exact hjn)
        rw [← Hl.out] at cL
        have fL := HROW5.out.free j
        have g0 := HBX4.out.2.2.2.cell 0
        simp only [List.getElem?_toArray, List.getElem?_cons_zero] at g0
        go_still_tail 8, (by kernel_rfl)
        change wpList _ _ _ _ _ w4.drew
        have hsv : 0 ≤ s * v ∧ s * v ≤ 12000000 := ⟨Int.mul_nonneg (by omega) (by omega), Int.le_trans (Int.mul_le_mul (show s ≤ 12 by omega) (show v ≤ 1000000 by omega) (by omega) (by omega)) (by omega)⟩
        have HV2 : Hid (0 ≤ V + s * v ∧ V + s * v ≤ 12000000 * ((i + 1 : Nat) : Int)) := ⟨by omega, by omega⟩
        have HROW6 : Hid (IntRow (w4.setCell ⟨g, j, none⟩ (.int .i64 (l - s))).drew g 3 (L.set j (l - s))) := IntRow.set (w := w4) HROW5.out j (by rw [HL.out.1]; exact hjn) (l - s)
        have hk5 : Hid (∀ g', g' ≠ g → (w4.setCell ⟨g, j, none⟩ (.int .i64 (l - s))).drew.heap[g']? = w4.heap[g']?) := fun g' hg => heap_set (w := w4) g' hg
        have HBX5 : Hid (Box (w4.setCell ⟨g, j, none⟩ (.int .i64 (l - s))).drew w.heap.size 25 #[.slice (some ⟨rb, ro, none⟩) n c, .slice (some ⟨bg, og, none⟩) m d, .bool single] ∧ Box (w4.setCell ⟨g, j, none⟩ (.int .i64 (l - s))).drew (w.heap.size + 1) 30 #[.slice none 0 0, .int .i64 0] ∧
          Box (w4.setCell ⟨g, j, none⟩ (.int .i64 (l - s))).drew (w1.heap.size + 1) 30 #[.slice (some ⟨w1.heap.size, 0, none⟩) m m, .int .i64 V] ∧ Box (w4.setCell ⟨g, j, none⟩ (.int .i64 (l - s))).drew wr.heap.size 37 #[.int .i64 s, .int .i64 v]) :=
          ⟨HBX4.out.1.of_heap (hk5.out _ (by omega)), HBX4.out.2.1.of_heap (hk5.out _ (by omega)), HBX4.out.2.2.1.of_heap (hk5.out _ (by omega)), HBX4.out.2.2.2.of_heap (hk5.out _ (by have := HSZ2.out; omega))⟩
        have HPR5 : Hid (PairRow (w4.setCell ⟨g, j, none⟩ (.int .i64 (l - s))).drew w1.heap.size 39 (S.set x ((j : Int), a - l))) := HPR4.out.of_heap (hk5.out _ (by omega))
        have HB5 : Hid (Below w.heap.size w (w4.setCell ⟨g, j, none⟩ (.int .i64 (l - s))).drew) := (HB4.out.setCell (by simp; omega) _).drew
        have hs5 : Hid ((w4.setCell ⟨g, j, none⟩ (.int .i64 (l - s))).drew.heap.size = w4.heap.size) := by simp [Hid, World.setCell]
        go_upto_region 12 with fail
        generalize (w4.setCell ⟨g, j, none⟩ (.int .i64 (l - s))).drew = w5 at *
        clear cL fL g0 hk5 HROW5 HPR4 HB4 HBX4
        have k0 := HBX5.out.2.2.1.cell 1
        have k1 := HBX5.out.2.2.2.cell 0
        have k2 := HBX5.out.2.2.2.cell 1
        have kf := HBX5.out.2.2.1.free 1
        simp only [List.getElem?_toArray, List.getElem?_cons_zero, List.getElem?_cons_succ] at k0 k1 k2
        have HXB := Lib.hid (HBX5.out.2.2.1.set 1 (.int .i64 (V + s * v)))
        have hlast := fun g' hg => heap_set (w := w5) (b := w1.heap.size + 1) (k := 1) (v := .int .i64 (V + s * v)) g' hg
        have HLAST := Lib.hid hlast
        clear hlast
        go_wp2
        go_roundw
        case rel => exact ⟨i + 1, L.set j (l - s), S.set x ((j : Int), a - l), V + s * v, by go_num, by omega, HV2.out.1, HV2.out.2, by
            rw [HF.out, HD.out]; simp only [Hid, List.foldl_cons, seatStep]; rw [Int.toNat_natCast, ← Hs.out, ← Hv.out, HFF.out, if_pos (by omega), Int.toNat_natCast, ← Ha.out, ← Hl.out],
          ⟨by rw [List.length_set]; exact HL.out.1, by rw [List.length_set]; exact HL.out.2.1, fun k hk => by
            rw [ix_set _ _ _ _ (by rw [HL.out.1]; exact hjn)]
            split
            · omega
            · exact HL.out.2.2 k hk⟩,
          fun _ g' e => by simp at e; subst e; exact HROW6.out.of_heap (HLAST.out g (by omega)), HPR5.out.of_heap (HLAST.out _ (by omega)),
          ⟨HBX5.out.1.of_heap (HLAST.out _ (by omega)), HBX5.out.2.1.of_heap (HLAST.out _ (by omega)), HXB.out⟩,
          by have h1 := hs5.out; have h2 := hs4.out; have h3 := hs3.out; have h4 := HSZ2.out; simp [Hid, World.setCell]; omega, HB5.out.setCell (by simp; omega) _⟩
        case measure => simp [intOf]; omega
    · have hdrop : O.drop i = [] := List.drop_eq_nil_of_le (by rw [HO.out.1]; omega)
      have HFIN : Hid (seatS single R G O = ⟨L, S, V⟩) := by rw [HF.out, hdrop]; rfl
      have HP : Hid (Pairs wr (some ⟨w1.heap.size, 0, none⟩) m S) := by have := HPR.out.pairs; rw [HL.out.2.1] at this; exact this
      have q0 := HBX.out.2.2.cell 0
      have q1 := HBX.out.2.2.cell 1
      have q2 := HBX.out.2.1.cell 0
      have q3 := HBX.out.2.1.cell 1
      have qf := HBX.out.2.1.free 0
      have qg := HBX.out.2.1.free 1
      simp only [List.getElem?_toArray, List.getElem?_cons_zero, List.getElem?_cons_succ] at q0 q1 q2 q3
      have HRB2 := Lib.hid ((HBX.out.2.1.set 0 (.slice (some ⟨w1.heap.size, 0, none⟩) m m)).set 1 (.int .i64 V))
      have HFR : Hid (∀ g', g' ≠ w.heap.size + 1 → ((wr.setCell ⟨w.heap.size + 1, 0, none⟩ (.slice (some ⟨w1.heap.size, 0, none⟩) m m)).setCell ⟨w.heap.size + 1, 1, none⟩ (.int .i64 V)).heap[g']? = wr.heap[g']?) :=
        fun g' h => (heap_set g' h).trans (heap_set g' h)
      have r0 := HRB2.out.cell 0
      have r1 := HRB2.out.cell 1
      clear hdrop
      go_wp2
      refine bodyPost_ret (v := .agg #[.slice (some ⟨w1.heap.size, 0, none⟩) m m, .int .i64 V]) (by simp [results, Try.results35, go_sem, r0, r1]) rfl ⟨some ⟨w1.heap.size, 0, none⟩, m, by rw [HFIN.out], (HB.out.setCell (by simp) _).setCell (by simp) _, ?_, fun q hq => by
        have := hszw.out
        simp at hq; subst hq; show w.heap.size ≤ w1.heap.size; omega⟩
      rw [HFIN.out]
      have hpr := HPR.out.of_heap (HFR.out w1.heap.size (by have := hszw.out; omega))
      have := hpr.pairs
      rw [HL.out.2.1] at this
      exact this
end Go.Proofs.Ytaomlhhlefpdeaa
