/- Words that the walks share: a list's entry behind a name, a slice that reads as a list; A block of cells that holds integers: its cells read, are not frozen, and can be stored into; Rows of records in memory: k cells each; what a slice of them reads as, what the call's own rows of them are; Strings as lists of bytes. -/
import Derived.WalkKit
import Derived.LoopTactic
import Derived.Deep.QuietTactic
import Derived.BigQuiet
import Derived.Outline
import Derived.Lib.Hide
import Derived.WalkSmall
import Derived.BigRegion
import Derived.Deep.OwnRows

set_option linter.unusedVariables false
set_option linter.unusedSimpArgs false
namespace Go.Proofs.YthabgljdndbphaaGreatDoor
open Go.RowKit

/-- An entry of a list of integers, behind a name that simp does not open. -/
def ix (l : List Int) (i : Nat) : Int := l.getD i 0

/-- The address and length read as the integers xs. -/
def Ints (w : World) (ra : Option Addr) (n : Nat) (xs : List Int) : Prop :=
 xs.length = n ∧ ∀ k, k < n → ∃ b o, ra = some ⟨b, o, none⟩ ∧ w.cell? ⟨b, o + k, none⟩ = some (.int .i64 (ix xs k))

theorem cell_lt {w : World} {b o : Nat} {v : Value} (h : w.cell? ⟨b, o, none⟩ = some v) : b < w.heap.size :=
 World.block_lt_of_cell? w ⟨b, o, none⟩ h

theorem Below.cell_of {w w' : World} {b o : Nat} {v : Value} (hb : Below w.heap.size w w') (h : w.cell? ⟨b, o, none⟩ = some v) : w'.cell? ⟨b, o, none⟩ = some v :=
 (hb.cell (p := ⟨b, o, none⟩) (cell_lt h)).trans h

theorem Ints.below {w w' : World} {ra : Option Addr} {n : Nat} {xs : List Int} (h : Ints w ra n xs) (hb : Below w.heap.size w w') : Ints w' ra n xs :=
 ⟨h.1, fun k hk => let ⟨b, o, e, c⟩ := h.2 k hk; ⟨b, o, e, Below.cell_of hb c⟩⟩

end Go.Proofs.YthabgljdndbphaaGreatDoor

namespace Go.Proofs.YthabgljdndbphaaGreatDoor
open Go.RowKit

def IntRow (w : World) (g : Nat) (T : TypeId) (D : List Int) : Prop :=
 ∃ arr : Array Value, w.heap[g]? = some (.cells arr T (0, 0)) ∧ D.length ≤ arr.size ∧ ∀ k, k < D.length → arr[k]? = some (.int .i64 (ix D k))

theorem IntRow.lt {w : World} {g : Nat} {T : TypeId} {D : List Int} (h : IntRow w g T D) : g < w.heap.size :=
 let ⟨_, e, _⟩ := h; lt_of_block e

theorem IntRow.cell {w : World} {g : Nat} {T : TypeId} {D : List Int} (h : IntRow w g T D) (k : Nat) (hk : k < D.length) : w.cell? ⟨g, k, none⟩ = some (.int .i64 (ix D k)) := by
 obtain ⟨arr, e, _, c⟩ := h
 simp only [World.cell?, e]
 exact c k hk

theorem IntRow.free {w : World} {g : Nat} {T : TypeId} {D : List Int} (h : IntRow w g T D) (k : Nat) : w.frozen? ⟨g, k, none⟩ = false := by
 obtain ⟨arr, e, _, c⟩ := h
 simp only [World.frozen?, e]
 simp

theorem ix_set (D : List Int) (i j : Nat) (v : Int) (hi : i < D.length) : ix (D.set i v) j = if i = j then v else ix D j := by
 unfold ix
 simp only [List.getD_eq_getElem?_getD, List.getElem?_set, hi, if_true]
 split <;> rfl

theorem IntRow.set {w : World} {g : Nat} {T : TypeId} {D : List Int} (h : IntRow w g T D) (i : Nat) (hi : i < D.length) (v : Int) : IntRow (w.setCell ⟨g, i, none⟩ (.int .i64 v)) g T (D.set i v) := by
 obtain ⟨arr, e, s, c⟩ := h
 refine ⟨arr.setIfInBounds i (.int .i64 v), ?_, by simpa using s, fun k hk => ?_⟩
 ·
  simp [World.setCell, Array.getElem?_modify, e]
 ·
  rw [List.length_set] at hk
  rw [Array.getElem?_setIfInBounds, ix_set _ _ _ _ hi]
  by_cases hik : i = k
  ·
   rw [if_pos hik, if_pos hik, if_pos (by omega)]
  ·
   rw [if_neg hik, if_neg hik]; exact c k hk

theorem grown_setCell (w : World) (g i : Nat) (v : Value) : w.grownBy (w.setCell ⟨g, i, none⟩ v) (some g) :=
 ⟨rfl, rfl, rfl, by simp [World.setCell], fun k _ hne => Below.heap_setCell _ _ _ _ (fun e => hne (by rw [e]))⟩

theorem grown_refl (w : World) (r : Option Nat) : w.grownBy w r := ⟨rfl, rfl, rfl, Nat.le_refl _, fun _ _ _ => rfl⟩

theorem grown_trans {a b c : World} {r : Option Nat} (h : a.grownBy b r) (k : b.grownBy c r) : a.grownBy c r :=
 ⟨k.os.trans h.os, k.tape.trans h.tape, k.output.trans h.output, Nat.le_trans h.size k.size, fun i hi hn => (k.block i (Nat.lt_of_lt_of_le hi h.size) hn).trans (h.block i hi hn)⟩

theorem grown_below {w w' : World} (h : Below w.heap.size w w') (r : Option Nat) : w.grownBy w' r :=
 ⟨h.os, h.tape, h.output, h.size, fun k hk _ => h.block k hk⟩

theorem grown_drew (w : World) (n : Nat) (r : Option Nat) : w.grownBy (w.drewN n) r := ⟨rfl, rfl, rfl, Nat.le_refl _, fun _ _ _ => rfl⟩

theorem grown_drew1 (w : World) (r : Option Nat) : w.grownBy w.drew r := ⟨rfl, rfl, rfl, Nat.le_refl _, fun _ _ _ => rfl⟩

theorem IntRow.below {w w' : World} {g : Nat} {T : TypeId} {D : List Int} (h : IntRow w g T D) (hb : Below w.heap.size w w') : IntRow w' g T D := by
 obtain ⟨arr, e, r⟩ := h
 exact ⟨arr, (hb.block g (lt_of_block e)).trans e, r⟩

theorem IntRow.drewN {w : World} {g : Nat} {T : TypeId} {D : List Int} (h : IntRow w g T D) (n : Nat) : IntRow (w.drewN n) g T D := h

theorem IntRow.drew1 {w : World} {g : Nat} {T : TypeId} {D : List Int} (h : IntRow w g T D) : IntRow w.drew g T D := h

/-- The list with two entries exchanged. -/
def swp (D : List Int) (i j : Nat) : List Int := (D.set i (ix D j)).set j (ix D i)

theorem swp_length (D : List Int) (i j : Nat) : (swp D i j).length = D.length := by simp [swp]

theorem ix_swp (D : List Int) (i j k : Nat) (hi : i < D.length) (hj : j < D.length) : ix (swp D i j) k = if j = k then ix D i else if i = k then ix D j else ix D k := by
 rw [swp, ix_set _ _ _ _ (by simpa using hj), ix_set _ _ _ _ hi]

theorem IntRow.swp {w : World} {g : Nat} {T : TypeId} {D : List Int} (h : IntRow w g T D) (i j : Nat) (hi : i < D.length) (hj : j < D.length) :
  IntRow ((w.setCell ⟨g, i, none⟩ (.int .i64 (ix D j))).setCell ⟨g, j, none⟩ (.int .i64 (ix D i))) g T (swp D i j) :=
 (h.set i hi (ix D j)).set j (by simpa using hj) (ix D i)

theorem list_ext_ix {A B : List Int} (hl : A.length = B.length) (h : ∀ k, k < A.length → ix A k = ix B k) : A = B := by
 apply List.ext_getElem hl
 intro k h1 h2
 have := h k h1
 simpa [ix, List.getD_eq_getElem?_getD, h1, h2] using this

theorem ix_append (A B : List Int) (k : Nat) : ix (A ++ B) k = if k < A.length then ix A k else ix B (k - A.length) := by
 unfold ix
 simp only [List.getD_eq_getElem?_getD, List.getElem?_append]
 split <;> rfl

end Go.Proofs.YthabgljdndbphaaGreatDoor

namespace Go.Proofs.YthabgljdndbphaaGreatDoor
open Go.RowKit

/-- How a record lies in k cells. -/
structure Enc (α : Type) (k : Nat) where
 cells : α → List Value
 len : ∀ x, (cells x).length = k
 one : ∀ x, ∀ v ∈ cells x, v.oneCell' = true
 pos : 0 < k

/-- Cell j of record i, behind a name that simp does not open. -/
def rc {α : Type} {k : Nat} (E : Enc α k) (xs : List α) (i j : Nat) : Value := ((xs[i]?.map E.cells).getD []).getD j (.bool false)

/-- The address and length read as the records xs. -/
def Recs {α : Type} {k : Nat} (E : Enc α k) (w : World) (ra : Option Addr) (n : Nat) (xs : List α) : Prop :=
 xs.length = n ∧ ∀ i, i < n → ∃ b o, ra = some ⟨b, o, none⟩ ∧ ∀ j, j < k → w.cell? ⟨b, o + i * k + j, none⟩ = some (rc E xs i j)

/-- A block of the call's own that holds records. -/
def RecRow {α : Type} {k : Nat} (E : Enc α k) (w : World) (g : Nat) (T : TypeId) (xs : List α) : Prop :=
 ∃ arr : Array Value, w.heap[g]? = some (.cells arr T (0, 0)) ∧ xs.length * k ≤ arr.size ∧ ∀ i j, i < xs.length → j < k → arr[i * k + j]? = some (rc E xs i j)

section
variable {α : Type} {k : Nat} {E : Enc α k} {w w' : World} {ra : Option Addr} {n g : Nat} {T : TypeId} {xs : List α}

theorem rc_eq (i j : Nat) (h : i < xs.length) : rc E xs i j = (E.cells xs[i]).getD j (.bool false) := by
 unfold rc
 rw [List.getElem?_eq_getElem h]
 rfl

theorem Recs.below (h : Recs E w ra n xs) (hb : Below w.heap.size w w') : Recs E w' ra n xs :=
 ⟨h.1, fun i hi => let ⟨b, o, e, c⟩ := h.2 i hi; ⟨b, o, e, fun j hj => Below.cell_of hb (c j hj)⟩⟩

theorem Recs.drewN (h : Recs E w ra n xs) (q : Nat) : Recs E (w.drewN q) ra n xs := h

theorem Recs.none (w : World) : Recs E w none 0 [] := ⟨rfl, fun i hi => absurd hi (Nat.not_lt_zero _)⟩

theorem RecRow.lt (h : RecRow E w g T xs) : g < w.heap.size := let ⟨_, e, _⟩ := h; lt_of_block e

theorem RecRow.cell (h : RecRow E w g T xs) (i j : Nat) (hi : i < xs.length) (hj : j < k) : w.cell? ⟨g, i * k + j, none⟩ = some (rc E xs i j) := by
 obtain ⟨arr, e, _, c⟩ := h
 simp only [World.cell?, e]
 exact c i j hi hj

theorem RecRow.free (h : RecRow E w g T xs) (o : Nat) : w.frozen? ⟨g, o, none⟩ = false := by
 obtain ⟨arr, e, _, c⟩ := h
 simp only [World.frozen?, e]
 simp

theorem RecRow.recs (h : RecRow E w g T xs) : Recs E w (some ⟨g, 0, none⟩) xs.length xs :=
 ⟨rfl, fun i hi => ⟨g, 0, rfl, fun j hj => by rw [Nat.zero_add]; exact h.cell i j hi hj⟩⟩

theorem RecRow.below (h : RecRow E w g T xs) (hb : Below w.heap.size w w') : RecRow E w' g T xs := by
 obtain ⟨arr, e, r⟩ := h
 exact ⟨arr, (hb.block g (lt_of_block e)).trans e, r⟩

theorem RecRow.grown {r : Option Nat} (h : RecRow E w g T xs) (hg : w.grownBy w' r) (hne : some g ≠ r) : RecRow E w' g T xs := by
 obtain ⟨arr, e, r'⟩ := h
 exact ⟨arr, (hg.block g (lt_of_block e) hne).trans e, r'⟩

theorem RecRow.apart (h : RecRow E w g T xs) (g' o : Nat) (v : Value) (hne : g ≠ g') : RecRow E (w.setCell ⟨g', o, none⟩ v) g T xs := by
 obtain ⟨arr, e, r⟩ := h
 exact ⟨arr, by rw [Below.heap_setCell _ _ _ _ (by simp; omega)]; exact e, r⟩

theorem RecRow.drewN (h : RecRow E w g T xs) (q : Nat) : RecRow E (w.drewN q) g T xs := h

theorem place_inj {i i' j j' : Nat} (hj : j < k) (hj' : j' < k) (h : i * k + j = i' * k + j') : i = i' ∧ j = j' := by
 have hk : 0 < k := by omega
 have a1 : (i * k + j) / k = i := by rw [Nat.mul_comm, Nat.mul_add_div hk, Nat.div_eq_of_lt hj]; rfl
 have a2 : (i' * k + j') / k = i' := by rw [Nat.mul_comm, Nat.mul_add_div hk, Nat.div_eq_of_lt hj']; rfl
 have b1 : (i * k + j) % k = j := by rw [Nat.mul_comm, Nat.mul_add_mod, Nat.mod_eq_of_lt hj]
 have b2 : (i' * k + j') % k = j' := by rw [Nat.mul_comm, Nat.mul_add_mod, Nat.mod_eq_of_lt hj']
 rw [h] at a1 b1
 exact ⟨a1.symm.trans a2, b1.symm.trans b2⟩

theorem place_lt {i j n : Nat} (hi : i < n) (hj : j < k) : i * k + j < n * k := by
 have : (i + 1) * k ≤ n * k := Nat.mul_le_mul_right k hi
 rw [Nat.add_mul] at this
 omega

/-- One cell of a record is stored into. -/
theorem RecRow.put (h : RecRow E w g T xs) (i j : Nat) (x : α) (v : Value) (hi : i < xs.length) (hj : j < k) (hx : ∀ q, q < k → (E.cells x).getD q (.bool false) = if j = q then v else rc E xs i q) :
  RecRow E (w.setCell ⟨g, i * k + j, none⟩ v) g T (xs.set i x) := by
 obtain ⟨arr, e, s, c⟩ := h
 refine ⟨arr.setIfInBounds (i * k + j) v, ?_, by simpa using s, fun i' j' hi' hj' => ?_⟩
 ·
  simp [World.setCell, Array.getElem?_modify, e]
 ·
  rw [List.length_set] at hi'
  rw [Array.getElem?_setIfInBounds, rc_eq _ _ (by simpa using hi'), List.getElem_set]
  by_cases hp : i * k + j = i' * k + j'
  ·
   obtain ⟨rfl, rfl⟩ := place_inj hj hj' hp
   have := place_lt hi hj
   rw [if_pos hp, if_pos (by omega), if_pos rfl, hx j hj, if_pos rfl]
  ·
   rw [if_neg hp]
   by_cases hii : i = i'
   ·
    subst hii
    have hjj : j ≠ j' := fun e => hp (by rw [e])
    rw [if_pos rfl, hx j' hj', if_neg hjj]
    exact c i j' hi' hj'
   ·
    rw [if_neg hii, ← rc_eq _ _ hi']
    exact c i' j' hi' hj'


theorem RecRow.take (h : RecRow E w g T xs) (m : Nat) (hm : m ≤ xs.length) : RecRow E w g T (xs.take m) := by
 obtain ⟨arr, e, s, c⟩ := h
 have hl : (xs.take m).length = m := by simp; omega
 refine ⟨arr, e, Nat.le_trans (Nat.mul_le_mul_right k (by omega)) s, fun i j hi hj => ?_⟩
 rw [hl] at hi
 rw [c i j (by omega) hj, rc_eq _ _ (by omega), rc_eq _ _ (by omega), List.getElem_take]

/-! ### Cells in a row -/
def flat (E : Enc α k) (xs : List α) : List Value := xs.flatMap E.cells

theorem flat_len : (flat E xs).length = xs.length * k := by
 unfold flat
 induction xs with
 | nil => simp
 | cons x xs ih => rw [List.flatMap_cons, List.length_append, ih, E.len, List.length_cons, Nat.add_mul]; omega

theorem flat_one : ∀ u ∈ flat E xs, u.oneCell' = true := by
 intro u hu
 obtain ⟨x, _, h⟩ := List.mem_flatMap.mp hu
 exact E.one x u h

theorem flat_get : ∀ (xs : List α) (i j : Nat), i < xs.length → j < k → (flat E xs)[i * k + j]? = some (rc E xs i j) := by
 intro xs
 induction xs with
 | nil => intro i j hi; simp at hi
 | cons x xs ih =>
  intro i j hi hj
  unfold flat
  rw [List.flatMap_cons]
  have hl := E.len x
  cases i with
  | zero =>
   rw [Nat.zero_mul, Nat.zero_add, List.getElem?_append_left (by omega), rc_eq _ _ (by simp)]
   rw [List.getElem_cons_zero, List.getD_eq_getElem?_getD, List.getElem?_eq_getElem (by omega)]
   rfl
  | succ i =>
   have h := ih i j (by simpa using hi) hj
   rw [List.getElem?_append_right (by rw [hl, Nat.add_mul]; omega), hl, show (i + 1) * k + j - k = i * k + j from by rw [Nat.add_mul]; omega]
   unfold flat at h
   rw [h, rc_eq _ _ (by simpa using hi), rc_eq _ _ hi, List.getElem_cons_succ]

theorem flat_append (xs ys : List α) : flat E (xs ++ ys) = flat E xs ++ flat E ys := by unfold flat; rw [List.flatMap_append]

theorem add_none (b o j : Nat) : (⟨b, o, none⟩ : Addr).add j = ⟨b, o + j, none⟩ := by unfold Addr.add; split <;> simp_all

/-- What an append of such a slice lays. -/
theorem flat_cells {ad : Addr} (h : Recs E w (some ad) n xs) : ∀ (j : Nat) (u : Value), (flat E xs)[j]? = some u → w.cell? (ad.add j) = some u := by
 intro j u hj
 have hl := flat_len (E := E) (xs := xs)
 have hk := E.pos
 have hjn : j < n * k := by
  rcases Nat.lt_or_ge j (flat E xs).length with a | a
  ·
   rw [hl, h.1] at a; exact a
  ·
   rw [List.getElem?_eq_none a] at hj; simp at hj
 have hi : j / k < n := (Nat.div_lt_iff_lt_mul hk).mpr hjn
 have hm : j % k < k := Nat.mod_lt _ hk
 obtain ⟨b, o, e, c⟩ := h.2 (j / k) hi
 simp only [Option.some.injEq] at e
 subst e
 have e1 : j / k * k + j % k = j := by rw [Nat.mul_comm]; exact Nat.div_add_mod j k
 have h1 := flat_get (E := E) xs (j / k) (j % k) (by rw [h.1]; exact hi) hm
 rw [e1, hj] at h1
 have h2 := c (j % k) hm
 rw [Nat.add_assoc, e1] at h2
 rw [add_none, h2, ← Option.some.inj h1]

theorem RecRow.of_row {B n : Nat} {v : Value} (hn : 0 < n) (h : w.ownsRow B T k v n (flat E xs)) : ∃ g c, v = .slice (some ⟨g, 0, none⟩) n c ∧ n ≤ c ∧ B ≤ g ∧ xs.length = n ∧ RecRow E w g T xs := by
 have hl : xs.length = n := by
  have := h.1
  rw [flat_len] at this
  exact Nat.eq_of_mul_eq_mul_right E.pos this
 rcases h.2 with ⟨_, h0⟩ | ⟨g, cap, cur, rfl, hb, hh, h1, _, h3, h4⟩
 ·
  omega
 ·
  have hsz : n * k ≤ cur.size := by
   have := congrArg List.length h4
   rw [List.length_take, flat_len, hl] at this
   have h5 : cur.toList.length = cur.size := by simp
   omega
  refine ⟨g, cap, rfl, h1, hb, hl, cur, hh, by rw [hl]; exact hsz, fun i j hi hj => ?_⟩
  have g1 := flat_get (E := E) xs i j hi hj
  rw [← h4] at g1
  rw [List.getElem?_take_of_lt (by rw [hl] at hi; exact place_lt hi hj), Array.getElem?_toList] at g1
  exact g1

/-- A slice of the call's own: where it has records it starts a block from B on. -/
def OwnRecs (E : Enc α k) (w : World) (B : Nat) (T : TypeId) (la : Option Addr) (n : Nat) (xs : List α) : Prop :=
 xs.length = n ∧ (0 < n → ∃ g, la = some ⟨g, 0, none⟩ ∧ B ≤ g ∧ RecRow E w g T xs)

theorem OwnRecs.of_row {B n : Nat} {v : Value} (h : w.ownsRow B T k v n (flat E xs)) : ∃ la c, v = .slice la n c ∧ OwnRecs E w B T la n xs := by
 rcases Nat.eq_zero_or_pos n with rfl | hn
 ·
  have hl : xs.length = 0 := by
   have := h.1
   rw [flat_len] at this
   exact Nat.eq_of_mul_eq_mul_right E.pos (by simpa using this)
  rcases h.2 with ⟨rfl, _⟩ | ⟨g, cap, cur, rfl, _⟩
  ·
   exact ⟨none, 0, rfl, hl, fun h => absurd h (Nat.lt_irrefl _)⟩
  ·
   exact ⟨_, _, rfl, hl, fun h => absurd h (Nat.lt_irrefl _)⟩
 ·
  obtain ⟨g, c, rfl, _, hb, hl, hr⟩ := RecRow.of_row hn h
  exact ⟨_, _, rfl, hl, fun _ => ⟨g, rfl, hb, hr⟩⟩

theorem OwnRecs.recs {B : Nat} {la : Option Addr} (h : OwnRecs E w B T la n xs) : Recs E w la n xs := by
 refine ⟨h.1, fun i hi => ?_⟩
 obtain ⟨g, rfl, _, hr⟩ := h.2 (by omega)
 exact ⟨g, 0, rfl, fun j hj => by rw [Nat.zero_add]; exact hr.cell i j (by rw [h.1]; exact hi) hj⟩

theorem OwnRecs.below {B : Nat} {la : Option Addr} (h : OwnRecs E w B T la n xs) (hb : Below w.heap.size w w') : OwnRecs E w' B T la n xs :=
 ⟨h.1, fun hn => let ⟨g, e, hg, hr⟩ := h.2 hn; ⟨g, e, hg, hr.below hb⟩⟩

/-- One new record, made as a slice of one. -/
theorem flat_single (x : α) : flat E [x] = E.cells x := by unfold flat; simp
end
end Go.Proofs.YthabgljdndbphaaGreatDoor

namespace Go.Proofs.YthabgljdndbphaaGreatDoor
open Go.RowKit

def bs (l : List UInt8) : ByteArray := ⟨l.toArray⟩

theorem bs_size (l : List UInt8) : (bs l).size = l.length := by show l.toArray.size = _; simp


theorem bs_list (x : List UInt8) : (bs x).data.toList = x := by show x.toArray.toList = x; simp



end Go.Proofs.YthabgljdndbphaaGreatDoor
