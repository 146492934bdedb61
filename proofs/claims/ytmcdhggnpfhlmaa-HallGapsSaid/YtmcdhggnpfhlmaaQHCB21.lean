/- hall: several: which rows share a point: plain; hall: several$2: what stays; what it works on. -/
import Derived.Test.YtmcdhggnpfhlmaaQHCB17
import Derived.Test.YtmcdhggnpfhlmaaQHCB19
import Derived.Test.YtmcdhggnpfhlmaaQHCB20
import Derived.Lib.SlicesCompact

namespace Go.Proofs.Ytmcdhggnpfhlmaa
open Go.RowKit Go.IntWalk
set_option linter.unusedSimpArgs false
set_option linter.unusedVariables false

/-! ### Sorted and compact -/
theorem compactUpTo_law (d : Array Int) (hs : ∀ i j, i ≤ j → j < d.size → d[i]! ≤ d[j]!) : ∀ m, m ≤ d.size → (Lib.compactUpTo d m).Pairwise (· < ·) ∧ ∀ x, x ∈ Lib.compactUpTo d m ↔ ∃ j, j < m ∧ d[j]! = x
  | 0, _ => ⟨by simp [Lib.compactUpTo], fun x => by simp [Lib.compactUpTo]⟩
  | m + 1, hm => by
    obtain ⟨h1, h2⟩ := compactUpTo_law d hs m (by omega)
    rw [Lib.compactUpTo_succ]
    by_cases hk : m = 0 ∨ d[m]! ≠ d[m - 1]!
    · have hk2 : Lib.keeps d m = true := by simpa [Lib.keeps] using hk
      rw [if_pos hk2]
      refine ⟨List.pairwise_append.2 ⟨h1, by simp, fun x hx y hy => ?_⟩, fun x => ?_⟩
      · obtain ⟨j, hj, rfl⟩ := (h2 x).1 hx
        simp only [List.mem_singleton] at hy
        subst hy
        have e1 := hs j (m - 1) (by omega) (by omega)
        have e2 := hs (m - 1) m (by omega) (by omega)
        have e3 : d[m]! ≠ d[m - 1]! := by
          rcases hk with h | h
          · omega
          · exact h
        omega
      · rw [List.mem_append, h2 x, List.mem_singleton]
        constructor
        · rintro (⟨j, hj, e⟩ | e)
          · exact ⟨j, by omega, e⟩
          · exact ⟨m, by omega, e.symm⟩
        · rintro ⟨j, hj, e⟩
          by_cases hjm : j = m
          · subst hjm; exact Or.inr e.symm
          · exact Or.inl ⟨j, by omega, e⟩
    · have hm0 : m ≠ 0 := fun h => hk (Or.inl h)
      have he : d[m]! = d[m - 1]! := by
        apply Classical.byContradiction
        exact fun h => hk (Or.inr h)
      rw [Lib.keeps_neg (by omega) he]
      simp only [Bool.false_eq_true, if_false, List.append_nil]
      refine ⟨h1, fun x => ?_⟩
      rw [h2 x]
      constructor
      · rintro ⟨j, hj, e⟩; exact ⟨j, by omega, e⟩
      · rintro ⟨j, hj, e⟩
        by_cases hjm : j = m
        · subst hjm; exact ⟨j - 1, by omega, by rw [← he, e]⟩
        · exact ⟨j, by omega, e⟩

theorem strict_ext : ∀ {a b : List Int}, a.Pairwise (· < ·) → b.Pairwise (· < ·) → (∀ x, x ∈ a ↔ x ∈ b) → a = b
  | [], [], _, _, _ => rfl
  | [], y :: b, _, _, h => absurd ((h y).2 (List.mem_cons_self ..)) (by simp)
  | x :: a, [], _, _, h => absurd ((h x).1 (List.mem_cons_self ..)) (by simp)
  | x :: a, y :: b, ha, hb, h => by
    have ha' := List.pairwise_cons.1 ha
    have hb' := List.pairwise_cons.1 hb
    have hxy : x = y := by
      rcases List.mem_cons.1 ((h x).1 (List.mem_cons_self ..)) with e | e
      · exact e
      · rcases List.mem_cons.1 ((h y).2 (List.mem_cons_self ..)) with e2 | e2
        · exact e2.symm
        · have := ha'.1 y e2
          have := hb'.1 x e
          omega
    subst hxy
    congr 1
    refine strict_ext ha'.2 hb'.2 fun z => ?_
    constructor
    · intro hz
      rcases List.mem_cons.1 ((h z).1 (List.mem_cons_of_mem _ hz)) with e | e
      · have := ha'.1 z hz; omega
      · exact e
    · intro hz
      rcases List.mem_cons.1 ((h z).2 (List.mem_cons_of_mem _ hz)) with e | e
      · have := hb'.1 z hz; omega
      · exact e

theorem sort_compact (O : List Int) : (Lib.compact (O.mergeSort fun x y => decide (x ≤ y))).Pairwise (· < ·) ∧ ∀ x, x ∈ Lib.compact (O.mergeSort fun x y => decide (x ≤ y)) ↔ x ∈ O := by
  have hsrt : (O.mergeSort fun x y => decide (x ≤ y)).Pairwise fun x y => decide (x ≤ y) = true := List.pairwise_mergeSort (fun a b c h1 h2 => by simp at *; omega) (fun a b => by simp; omega) O
  have hm : ∀ x, x ∈ O ↔ x ∈ (O.mergeSort fun x y => decide (x ≤ y)) := fun x => List.mem_mergeSort.symm
  generalize (O.mergeSort fun x y => decide (x ≤ y)) = Z at *
  have hs : ∀ i j, i ≤ j → j < Z.toArray.size → Z.toArray[i]! ≤ Z.toArray[j]! := fun i j hij hj => by
    have hj' : j < Z.length := by simpa using hj
    have hi' : i < Z.length := by omega
    by_cases e : i = j
    · subst e; exact Int.le_refl _
    · have := List.pairwise_iff_getElem.1 hsrt i j hi' hj' (by omega)
      simp only [decide_eq_true_eq] at this
      simpa [hi', hj'] using this
  obtain ⟨h1, h2⟩ := compactUpTo_law Z.toArray hs Z.length (by simp)
  refine ⟨h1, fun x => ?_⟩
  rw [hm x]
  show x ∈ Lib.compactUpTo _ _ ↔ _
  rw [h2 x, List.mem_iff_getElem]
  constructor
  · rintro ⟨j, hj, e⟩; exact ⟨j, hj, by simpa [hj] using e⟩
  · rintro ⟨j, hj, e⟩; exact ⟨j, hj, by simpa [hj] using e⟩

/-! ### Points -/
def ptsS (r : RowR) : List (Int × Int) := (seatsS r).map fun p => (p.2, r.y)
/-- Which rows have a seat at a point. -/
def gAt (rows : List RowR) (p : Int × Int) : List Int := ((List.range rows.length).filter fun j => (rows[j]?).any fun r => decide (p ∈ ptsS r)).map Int.ofNat
/-- .. when of the next row some seats are there. -/
def gAtP (rows : List RowR) (y : Int) (l : List (Int × Int)) (p : Int × Int) : List Int := gAt rows p ++ if p ∈ l.map (fun q => (q.2, y)) then [(rows.length : Int)] else []

theorem gAt_nil (p : Int × Int) : gAt [] p = [] := rfl
theorem gAt_le (rows : List RowR) (p : Int × Int) : (gAt rows p).length ≤ rows.length := by
  unfold gAt
  rw [List.length_map]
  exact Nat.le_trans (List.length_filter_le _ _) (by simp)
theorem gAt_mem {rows : List RowR} {p : Int × Int} {x : Int} : x ∈ gAt rows p ↔ ∃ (j : Nat) (hj : j < rows.length), x = j ∧ p ∈ ptsS rows[j] := by
  unfold gAt
  simp only [List.mem_map, List.mem_filter, List.mem_range]
  constructor
  · rintro ⟨j, ⟨hj, h⟩, rfl⟩
    rw [List.getElem?_eq_getElem hj] at h
    exact ⟨j, hj, rfl, by simpa using h⟩
  · rintro ⟨j, hj, rfl, h⟩
    exact ⟨j, ⟨hj, by rw [List.getElem?_eq_getElem hj]; simpa using h⟩, rfl⟩
theorem gAt_next (rows : List RowR) (r : RowR) : gAt (rows ++ [r]) = gAtP rows r.y (seatsS r) := by
  funext p
  unfold gAtP gAt
  rw [List.length_append, List.length_singleton, List.range_succ, List.filter_append, List.map_append]
  congr 1
  · congr 1
    refine List.filter_congr fun j hj => ?_
    have hj' : j < rows.length := by simpa using hj
    rw [List.getElem?_append_left hj']
  · rw [List.filter_cons, List.getElem?_append_right (Nat.le_refl _)]
    simp only [Nat.sub_self, List.getElem?_cons_zero, Option.any_some, List.filter_nil]
    unfold ptsS
    by_cases h : p ∈ List.map (fun p => (p.2, r.y)) (seatsS r)
    · rw [if_pos (by simpa using h), if_pos h]; rfl
    · rw [if_neg (by simpa using h), if_neg h]; rfl
theorem gAtP_nil (rows : List RowR) (y : Int) : gAtP rows y [] = gAt rows := by
  funext p
  simp [gAtP]

theorem xs_nodup {r : RowR} (hok : RowOk r) : ((seatsS r).map (·.2)).Nodup := by
  unfold seatsS
  rw [List.filter_map, List.map_map]
  have hst := hok.st
  refine List.Pairwise.map _ (fun a b (h : a ≠ b) => ?_) ((List.nodup_range).filter _)
  intro e
  have e2 : (a : Int) * r.step = (b : Int) * r.step := by
    have : r.x + (a : Int) * r.step = r.x + (b : Int) * r.step := e
    omega
  have := Int.eq_of_mul_eq_mul_right (by omega) e2
  exact h (by omega)

/-- The point of one seat more is new among those of the row. -/
theorem pt_new {r : RowR} (hok : RowOk r) {l : List (Int × Int)} {q : Int × Int} (h : (l ++ [q]) <+: seatsS r) : (q.2, r.y) ∉ l.map fun p => (p.2, r.y) := by
  have hn := (List.Sublist.nodup (h.sublist.map (·.2)) (xs_nodup hok))
  rw [List.map_append, List.nodup_append] at hn
  intro hm
  obtain ⟨p, hp, e⟩ := List.mem_map.1 hm
  have e1 : p.2 = q.2 := (Prod.mk.injEq .. ▸ e).1
  exact hn.2.2 p.2 (List.mem_map_of_mem hp) q.2 (by simp) e1
theorem gAtP_at {rows : List RowR} {r : RowR} (hok : RowOk r) {l : List (Int × Int)} {q : Int × Int} (h : (l ++ [q]) <+: seatsS r) : gAtP rows r.y l (q.2, r.y) = gAt rows (q.2, r.y) := by
  unfold gAtP
  rw [if_neg (pt_new hok h), List.append_nil]
theorem gAtP_next (rows : List RowR) {r : RowR} (hok : RowOk r) {l : List (Int × Int)} {q : Int × Int} (h : (l ++ [q]) <+: seatsS r) :
    gAtP rows r.y (l ++ [q]) = fun p => if p = (q.2, r.y) then gAtP rows r.y l p ++ [(rows.length : Int)] else gAtP rows r.y l p := by
  funext p
  by_cases e : p = (q.2, r.y)
  · rw [if_pos e, e, gAtP_at hok h]
    unfold gAtP
    rw [if_pos (by simp)]
  · rw [if_neg e]
    unfold gAtP
    congr 1
    by_cases hm : p ∈ l.map fun q => (q.2, r.y)
    · rw [if_pos hm, if_pos (by rw [List.map_append]; exact List.mem_append_left _ hm)]
    · rw [if_neg hm, if_neg (by
        rw [List.map_append, List.mem_append]
        rintro (h | h)
        · exact hm h
        · exact e (by simpa using h))]

/-- What is gathered. -/
def othS (rows : List RowR) (y : Int) (l : List (Int × Int)) : List Int := l.flatMap fun q => gAt rows (q.2, y)
theorem othS_next (rows : List RowR) (y : Int) (l : List (Int × Int)) (q : Int × Int) : othS rows y (l ++ [q]) = othS rows y l ++ gAt rows (q.2, y) := by simp [othS]
theorem othS_le (rows : List RowR) (y : Int) : ∀ l : List (Int × Int), (othS rows y l).length ≤ l.length * rows.length
  | [] => by simp [othS]
  | q :: l => by
    have h1 := othS_le rows y l
    have h2 := gAt_le rows (q.2, y)
    unfold othS at *
    rw [List.flatMap_cons, List.length_append, List.length_cons, Nat.succ_mul]
    omega

theorem share_iff (a b : RowR) : shareB a b = true ↔ ∃ p ∈ seatsS a, (p.2, a.y) ∈ ptsS b := by
  unfold shareB ptsS
  simp only [List.any_eq_true, Bool.and_eq_true, decide_eq_true_eq, List.mem_map, Prod.mk.injEq]
  constructor
  · rintro ⟨p, hp, q, hq, h1, h2⟩; exact ⟨p, hp, q, hq, h1.symm, h2.symm⟩
  · rintro ⟨p, hp, q, hq, h1, h2⟩; exact ⟨p, hp, q, hq, h1.symm, h2.symm⟩

/-- Which of the rows share a point with r, in order. -/
def shrS (rows : List RowR) (r : RowR) : List Nat := (List.range rows.length).filter fun j => (rows[j]?).any fun b => shareB r b
theorem oth_is (rows : List RowR) (r : RowR) : Lib.compact ((othS rows r.y (seatsS r)).mergeSort fun x y => decide (x ≤ y)) = (shrS rows r).map Int.ofNat := by
  obtain ⟨h1, h2⟩ := sort_compact (othS rows r.y (seatsS r))
  refine strict_ext h1 ?_ fun x => ?_
  · unfold shrS
    refine List.Pairwise.map _ (fun a b (h : a < b) => ?_) ((List.pairwise_lt_range).filter _)
    show (a : Int) < b
    omega
  · rw [h2 x]
    unfold othS shrS
    simp only [List.mem_flatMap, gAt_mem, List.mem_map, List.mem_filter, List.mem_range]
    constructor
    · rintro ⟨q, hq, j, hj, rfl, hp⟩
      refine ⟨j, ⟨hj, ?_⟩, rfl⟩
      rw [List.getElem?_eq_getElem hj]
      exact (share_iff _ _).2 ⟨q, hq, hp⟩
    · rintro ⟨j, ⟨hj, h⟩, rfl⟩
      rw [List.getElem?_eq_getElem hj] at h
      obtain ⟨q, hq, hp⟩ := (share_iff _ _).1 (by simpa using h)
      exact ⟨q, hq, j, hj, rfl, hp⟩
theorem shr_lt {rows : List RowR} {r : RowR} {j : Nat} (h : j ∈ shrS rows r) : j < rows.length := by
  unfold shrS at h
  simpa using (List.mem_filter.1 h).1
theorem shr_faults (rows : List RowR) (r : RowR) : (shrS rows r).map (fun j => (⟨13, r.at', ((rows[j]?).map (·.at')).getD 0⟩ : FaultR)) = (rows.filter fun x => shareB r x).map fun x => ⟨13, r.at', x.at'⟩ := by
  unfold shrS
  suffices h : ∀ (rows : List RowR) (k : Nat) (all : List RowR), (∀ j (hj : j < rows.length), all[k + j]? = some rows[j]) →
      ((List.range' k rows.length).filter fun j => (all[j]?).any fun b => shareB r b).map (fun j => (⟨13, r.at', ((all[j]?).map (·.at')).getD 0⟩ : FaultR)) = (rows.filter fun x => shareB r x).map fun x => ⟨13, r.at', x.at'⟩ by
    rw [List.range_eq_range']
    exact h rows 0 rows fun j hj => by simp [hj]
  intro rows
  induction rows with
  | nil => intro k all _; rfl
  | cons x rows ih =>
    intro k all h
    have h0 : all[k]? = some x := h 0 (by simp)
    have hr := ih (k + 1) all fun j hj => by
      have := h (j + 1) (by simpa using hj)
      rw [show k + 1 + j = k + (j + 1) from by omega, this]
      simp
    rw [List.length_cons, List.range'_succ, List.filter_cons, List.filter_cons, h0]
    simp only [Option.any_some]
    by_cases hs : shareB r x = true
    · rw [if_pos hs, if_pos hs, List.map_cons, List.map_cons, hr, h0]
      rfl
    · rw [if_neg hs, if_neg hs, hr]
end Go.Proofs.Ytmcdhggnpfhlmaa

namespace Go.Proofs.Ytmcdhggnpfhlmaa
open Go.RowKit Go.IntWalk Go.Maps Go.WideMaps
set_option linter.unusedSimpArgs false
set_option linter.unusedVariables false

/-- w' is w but for some blocks. -/
structure KUpd (S : Nat → Obj → Prop) (w w' : World) : Prop where
  os : w'.os = w.os
  tape : w'.tape = w.tape
  output : w'.output = w.output
  size : w.heap.size ≤ w'.heap.size
  block : ∀ (b : Nat) (o : Obj), w.heap[b]? = some o → ¬ S b o → w'.heap[b]? = some o
section
variable {S : Nat → Obj → Prop} {w w' : World}
theorem KUpd.of_below (h : Below w.heap.size w w') : KUpd S w w' := ⟨h.os, h.tape, h.output, h.size, fun b o hb _ => (h.block b (lt_of_block hb)).trans hb⟩
theorem KUpd.refl (S : Nat → Obj → Prop) (w : World) : KUpd S w w := ⟨rfl, rfl, rfl, Nat.le_refl _, fun _ _ h _ => h⟩
theorem KUpd.trans {a b c : World} (h : KUpd S a b) (k : KUpd S b c) : KUpd S a c :=
  ⟨k.os.trans h.os, k.tape.trans h.tape, k.output.trans h.output, Nat.le_trans h.size k.size, fun i o hi hS => k.block i o (h.block i o hi hS) hS⟩
theorem KUpd.wide {T : Nat → Obj → Prop} (h : KUpd S w w') (hs : ∀ i o, S i o → T i o) : KUpd T w w' :=
  ⟨h.os, h.tape, h.output, h.size, fun i o hi hT => h.block i o hi (fun hS => hT (hs i o hS))⟩
theorem KUpd.of_grown {r : Option Nat} (h : w.grownBy w' r) (hr : ∀ b o, r = some b → w.heap[b]? = some o → S b o) : KUpd S w w' :=
  ⟨h.os, h.tape, h.output, h.size, fun b o hb hS => by
    by_cases e : some b = r
    · exact absurd (hr b o e.symm hb) hS
    · exact (h.block b (lt_of_block hb) e).trans hb⟩
theorem KUpd.of_set {g o : Nat} {v : Value} {ob : Obj} (h : w.heap[g]? = some ob) (hS : S g ob) : KUpd S w (w.setCell ⟨g, o, none⟩ v) :=
  ⟨rfl, rfl, rfl, by simp [World.setCell], fun b o2 hb hT => by
    by_cases e : g = b
    · subst e
      rw [hb] at h
      cases h
      exact absurd hS hT
    · rw [Below.heap_setCell _ _ _ _ (by simp; omega)]
      exact hb⟩
theorem KUpd.of_tupd {T : TypeId → Prop} (h : TUpd T w w') (hs : ∀ b arr t x, T t → S b (.cells arr t x)) : KUpd S w w' :=
  ⟨h.os, h.tape, h.output, h.size, fun b o hb hS => h.block b o hb (fun arr t x e hT => hS (by rw [e]; exact hs b arr t x hT))⟩
theorem KUpd.of_upd {T : Nat → Prop} (h : Upd T w w') (hs : ∀ b o, w.heap[b]? = some o → T b → S b o) : KUpd S w w' :=
  ⟨h.os, h.tape, h.output, h.size, fun b o hb hS => (h.block b (lt_of_block hb) (fun hT => hS (hs b o hb hT))).trans hb⟩
/-- All that changes stands from B on. -/
theorem KUpd.below {B : Nat} {w0 : World} (hb : Below B w0 w) (hB : B ≤ w.heap.size) (h : KUpd S w w') (hs : ∀ i o, w.heap[i]? = some o → S i o → B ≤ i) : Below B w0 w' :=
  hb.trans ⟨h.os, h.tape, h.output, h.size, fun i hi => by
    have hl : i < w.heap.size := Nat.lt_of_lt_of_le hi hB
    rw [h.block i _ (Array.getElem?_eq_getElem hl) (fun hS => by have := hs i _ (Array.getElem?_eq_getElem hl) hS; omega), Array.getElem?_eq_getElem hl]⟩
end

/-- What the calls for a row's places change. -/
def SevT (gB M : Nat) (b : Nat) (o : Obj) : Prop := b = gB ∨ b = M ∨ ∃ arr T x, o = .cells arr T x ∧ (T = 3 ∨ T = 102)

structure SevF (w0 : World) (l : LevR) (r : RowR) (gr gO gM gR gB gl M : Nat) (ra : Option Addr) (nr rc : Nat) (w : World) (O : List Int) (G : PtT → List Int) (bl : Bool) (N : Nat) (v : Value) (f : PtT → Value) : Prop where
  below : Below w0.heap.size w0 w
  base : w0.heap.size ≤ gO ∧ w0.heap.size ≤ gB ∧ w0.heap.size ≤ M
  row : RowIn w gr r
  ov : w.heap[gO]? = some (.cells #[v] 102 (0, 0))
  orow : w.ownsRow w0.heap.size 3 1 v O.length (O.map (Value.int .i64))
  tak : TakenF w w0.heap.size M N f G
  ap : ∀ p, (f p).ownBlock = v.ownBlock → v.ownBlock = none
  mv : w.heap[gM]? = some (.cells #[.map (some M)] 106 (0, 0))
  rv : w.heap[gR]? = some (.cells #[.slice ra nr rc] 55 (0, 0))
  bv : w.heap[gB]? = some (.cells #[.bool bl] 4 (0, 0))
  lev : LevIn w gl l
def Sev (w0 : World) (l : LevR) (r : RowR) (gr gO gM gR gB gl M : Nat) (ra : Option Addr) (nr rc : Nat) (w : World) (O : List Int) (G : PtT → List Int) (bl : Bool) (N : Nat) : Prop :=
  ∃ v f, SevF w0 l r gr gO gM gR gB gl M ra nr rc w O G bl N v f

section
variable {w0 w w' w3 w6 : World} {l : LevR} {r : RowR} {gr gO gM gR gB gl M nr rc N : Nat} {ra : Option Addr} {O O' : List Int} {G G' : PtT → List Int} {bl : Bool} {v v' : Value} {f f' : PtT → Value}

theorem SevF.down (h : SevF w0 l r gr gO gM gR gB gl M ra nr rc w O G bl N v f) (hb : Below w.heap.size w w') : SevF w0 l r gr gO gM gR gB gl M ra nr rc w' O G bl N v f :=
  ⟨h.below.trans (hb.mono h.below.size), h.base, h.row.down hb, (hb.block gO (lt_of_block h.ov)).trans h.ov, row_of_heap h.orow fun r hr => hb.block r (h.orow.lt r hr).2, h.tak.below hb, h.ap,
    (hb.block gM (lt_of_block h.mv)).trans h.mv, (hb.block gR (lt_of_block h.rv)).trans h.rv, (hb.block gB (lt_of_block h.bv)).trans h.bv, h.lev.down hb⟩

/-- A block that is no cells of integers stays when a row of integers grows. -/
theorem grown_keep {B n b : Nat} {u : Value} {xs arr : List Value} {A : Array Value} {T : TypeId} {x : Nat × Nat} (ho : w.ownsRow B 3 1 u n xs) (hg : w.grownBy w' u.ownBlock) (hb : w.heap[b]? = some (.cells A T x)) (hT : T ≠ 3) : w'.heap[b]? = some (.cells A T x) :=
  (hg.block b (lt_of_block hb) (fun e => by
    obtain ⟨cur, hh⟩ := own_type ho e.symm
    exact type_ne hb hh hT rfl)).trans hb
theorem set_keep {g o b : Nat} {u : Value} {A C : Array Value} {T U : TypeId} {x y : Nat × Nat} (hg : w.heap[g]? = some (.cells C U y)) (hb : w.heap[b]? = some (.cells A T x)) (hT : T ≠ U) : (w.setCell ⟨g, o, none⟩ u).heap[b]? = some (.cells A T x) := by
  rw [Below.heap_setCell _ _ _ _ (by simpa using type_ne hb hg hT)]
  exact hb
theorem set_keep_map {g o b : Nat} {u : Value} {C : Array Value} {U : TypeId} {y : Nat × Nat} {es : Array MapEntry} {c : Nat} (hg : w.heap[g]? = some (.cells C U y)) (hb : w.heap[b]? = some (.map es c)) : (w.setCell ⟨g, o, none⟩ u).heap[b]? = w.heap[b]? :=
  Below.heap_setCell _ _ _ _ (by rintro e; have e2 : b = g := by simpa using e
                                 subst e2; rw [hg] at hb; cases hb)

theorem SevF.app (h : SevF w0 l r gr gO gM gR gB gl M ra nr rc w O G bl N v f) (hg : w.grownBy w3 v.ownBlock) (ho : w3.ownsRow w0.heap.size 3 1 v' O'.length (O'.map (Value.int .i64))) (hob : v'.ownBlock = v.ownBlock ∨ v'.ownBlock = some w.heap.size) :
    SevF w0 l r gr gO gM gR gB gl M ra nr rc (w3.setCell ⟨gO, 0, none⟩ v') O' G bl N v' f := by
  have o3 := grown_keep h.orow hg h.ov (by decide) (arr := [])
  obtain ⟨es, c, hM⟩ := h.tak.blk
  have hM3 : w3.heap[M]? = some (.map es c) := (hg.block M (lt_of_block hM) (fun e => row_ne_map h.orow hM e.symm)).trans hM
  have hb3 : Below w0.heap.size w0 w3 := h.below.grown hg h.below.size (fun k hk => (h.orow.lt k hk).1)
  refine ⟨hb3.trans (below_set h.base.1), h.base, set_keep o3 (grown_keep h.orow hg h.row (by decide) (arr := [])) (by decide), set_var o3, ?_, ?_, ?_,
    set_keep o3 (grown_keep h.orow hg h.mv (by decide) (arr := [])) (by decide), set_keep o3 (grown_keep h.orow hg h.rv (by decide) (arr := [])) (by decide), set_keep o3 (grown_keep h.orow hg h.bv (by decide) (arr := [])) (by decide), set_keep o3 (grown_keep h.orow hg h.lev (by decide) (arr := [])) (by decide)⟩
  · refine row_of_heap ho fun r hr => ?_
    obtain ⟨cur, hh⟩ := own_type ho hr
    rw [set_keep o3 hh (by decide), hh]
  · refine h.tak.keep ?_ fun p b e => ?_
    · rw [set_keep_map o3 hM3, hM3, hM]
    · obtain ⟨cur, hh⟩ := own_type (h.tak.rows p) e
      have hh3 : w3.heap[b]? = some (.cells cur 3 (0, 0)) := (hg.block b (lt_of_block hh) (fun e2 => by
        have := h.ap p (e.trans e2)
        rw [this] at e2; cases e2)).trans hh
      rw [set_keep o3 hh3 (by decide), hh]
  · intro p e
    rcases hob with e2 | e2
    · rw [e2]; exact h.ap p (e.trans e2)
    · have := h.tak.lt p (e.trans e2); omega

theorem SevF.psh (h : SevF w0 l r gr gO gM gR gB gl M ra nr rc w O G bl N v f) {p : PtT} {N' : Nat} (hT : TakenF w6 w0.heap.size M N' f' G') (hf : ∀ q, (f' q).ownBlock = (f q).ownBlock ∨ (f' q).ownBlock = some w.heap.size) (hos : w6.os = w.os) (htp : w6.tape = w.tape) (hou : w6.output = w.output) (hsz : w.heap.size ≤ w6.heap.size)
    (hbk : ∀ b, b < w.heap.size → b ≠ M → (f p).ownBlock ≠ some b → w6.heap[b]? = w.heap[b]?) :
    SevF w0 l r gr gO gM gR gB gl M ra nr rc w6 O G' bl N' v f' := by
  obtain ⟨es, c, hM⟩ := h.tak.blk
  have keep : ∀ {b : Nat} {A : Array Value} {T : TypeId} {x : Nat × Nat}, w.heap[b]? = some (.cells A T x) → T ≠ 3 → w6.heap[b]? = some (.cells A T x) := fun {b A T x} hb hT =>
    (hbk b (lt_of_block hb) (fun e => by rw [e, hM] at hb; cases hb) (fun e => by
      obtain ⟨cur, hh⟩ := own_type (h.tak.rows p) e
      exact type_ne hb hh hT rfl)).trans hb
  refine ⟨⟨hos.trans h.below.os, htp.trans h.below.tape, hou.trans h.below.output, Nat.le_trans h.below.size hsz, fun b hb => ?_⟩, h.base, keep h.row (by decide), keep h.ov (by decide), ?_, hT, ?_, keep h.mv (by decide), keep h.rv (by decide), keep h.bv (by decide), keep h.lev (by decide)⟩
  · have := h.below.size
    have := h.base.2.2
    exact (hbk b (by omega) (by omega) (fun e => by have := ((h.tak.rows p).lt b e).1; omega)).trans (h.below.block b hb)
  · refine row_of_heap h.orow fun b hb => hbk b (h.orow.lt b hb).2 (fun e => row_ne_map h.orow hM (by rw [hb, e])) (fun e => ?_)
    have := h.ap p (e.trans hb.symm)
    rw [this] at hb; cases hb
  · intro q e
    rcases hf q with e2 | e2
    · exact h.ap q (e2.symm.trans e)
    · have := (h.orow.lt _ (e.symm.trans e2)).2; omega

theorem SevF.blk (h : SevF w0 l r gr gO gM gR gB gl M ra nr rc w O G bl N v f) (b2 : Bool) : SevF w0 l r gr gO gM gR gB gl M ra nr rc (w.setCell ⟨gB, 0, none⟩ (.bool b2)) O G b2 N v f := by
  obtain ⟨es, c, hM⟩ := h.tak.blk
  refine ⟨h.below.trans (below_set h.base.2.1), h.base, set_keep h.bv h.row (by decide), set_keep h.bv h.ov (by decide), ?_, h.tak.keep ?_ fun p b e => ?_, h.ap, set_keep h.bv h.mv (by decide), set_keep h.bv h.rv (by decide), set_var h.bv, set_keep h.bv h.lev (by decide)⟩
  · refine row_of_heap h.orow fun r hr => ?_
    obtain ⟨cur, hh⟩ := own_type h.orow hr
    rw [set_keep h.bv hh (by decide), hh]
  · exact set_keep_map h.bv hM
  · obtain ⟨cur, hh⟩ := own_type (h.tak.rows p) e
    rw [set_keep h.bv hh (by decide), hh]
end
end Go.Proofs.Ytmcdhggnpfhlmaa
