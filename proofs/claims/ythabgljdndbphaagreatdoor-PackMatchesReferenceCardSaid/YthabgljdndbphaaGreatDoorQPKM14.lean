/- FitSums, FitFewer, FitTurned, plain; foyerref22.best: copies of slices, the plain function, its bounds; foyerref22.rooms: the walk. -/
import Derived.Test.YthabgljdndbphaaGreatDoorQPKM10
import Derived.Test.YthabgljdndbphaaGreatDoorQPKM13
import Derived.BigRegion

set_option linter.unusedVariables false
set_option linter.unusedSimpArgs false
namespace Go.Proofs.YthabgljdndbphaaGreatDoor
open Go.RowKit

/-! ### FitTurned -/





theorem spots_get (m : Nat) (f : Nat → Int × Int) (k : Nat) (h : k < m) : gs ((List.range m).map f) k = (f k).1 ∧ gv ((List.range m).map f) k = (f k).2 := by
 simp [gs, gv, List.getD, h]








/-! ### FitFewer -/
theorem rowLegal_false {n : Int} {L : List (Int × Int)} (hs : ∀ x ∈ L, 1 ≤ x.1) (hx : ∀ x ∈ L, 0 ≤ x.2) : RowLegal false n L ↔ L.Pairwise Apart := by
 have hch : ∀ (K : List (Int × Int)) (a : Int), (∀ x ∈ K, a ≤ x.2) → K.Pairwise (fun x y => x.2 + x.1 ≤ y.2) → (chain false a K).isSome = true := by
  intro K
  induction K with
  | nil => intro a _ _; rfl
  | cons x K ih =>
   intro a h1 h2
   rw [List.pairwise_cons] at h2
   have := h1 x (by simp)
   rw [chain, if_neg (by simp; omega)]
   exact ih _ (fun y hy => h2.1 y hy) h2.2
 have hcb : ∀ (K : List (Int × Int)) (a e : Int), (∀ x ∈ K, 1 ≤ x.1) → chain false a K = some e → K.Pairwise (fun x y => x.2 + x.1 ≤ y.2) := by
  intro K
  induction K with
  | nil => intro _ _ _ _; exact List.Pairwise.nil
  | cons x K ih =>
   intro a e hs h
   rw [chain] at h
   split at h
   ·
    simp at h
   ·
    have := chain_lt false K _ e (fun y hy => hs y (by simp [hy])) h
    exact List.Pairwise.cons this.1 (ih _ e (fun y hy => hs y (by simp [hy])) h)
 constructor
 ·
  rintro ⟨L', hp, hq, ho⟩
  unfold rowOk at ho
  cases hc : chain false 0 L' with
  | none => rw [hc] at ho; simp at ho
  | some e =>
   have := hcb L' 0 e (fun x hx => hs x (hp.mem_iff.mp hx)) hc
   exact (hp.pairwise_iff (fun {a b} h => by unfold Apart at *; omega)).mp (List.Pairwise.imp (fun h => Or.inl h) this)
 ·
  intro h
  obtain ⟨L', hp, hq⟩ := exists_sorted L
  have hm : ∀ x, x ∈ L' → x ∈ L := fun x => hp.mem_iff.mp
  have ha : L'.Pairwise Apart := (hp.pairwise_iff (fun {a b} h => by unfold Apart at *; omega)).mpr h
  have hc := hch L' 0 (fun x h => hx x (hm x h)) (pairwise_both hq ha (fun x h => hs x (hm x h)))
  refine ⟨L', hp, hq, ?_⟩
  unfold rowOk
  cases hcc : chain false 0 L' with
  | none => rw [hcc] at hc; simp at hc
  | some e => rfl








/-! ### FitSums -/





end Go.Proofs.YthabgljdndbphaaGreatDoor

namespace Go.Proofs.YthabgljdndbphaaGreatDoor
open Go.RowKit Go.IntWalk

theorem ret_int {k : IntKind} {a b : Int} (h : a = b) : Ending.returned (.int k a) = Ending.returned (.int k b) := by rw [h]

theorem max_if (a b : Int) : Value.int IntKind.i64 (if a < b then b else a) = Value.int IntKind.i64 (max a b) := by congr 1; split <;> omega

theorem append_nothing {P : Program} {w : World} {base : Nat} {t ty e : TypeId} {i : TypeInfo} {size n : Nat} {v : Value} {xs : List Value} (ht : P.underlying t = some (.slice e)) (hi : P.info? e = some i) (ho : w.ownsRow base e size v n xs) (c : Nat) :
  (Builtin.append_ #[t, t] ty #[v, .slice none 0 c]).run P w = .ok v w := by
 rcases ho.2 with ⟨rfl, _⟩ | ⟨b, cap, cur, rfl, _, _, h1, _⟩
 ·
  simp [Builtin.append_, run_underlying ht, sizeOf, typeInfo, hi, Builtin.lenOf, Builtin.firstCells]
 ·
  simp [Builtin.append_, run_underlying ht, sizeOf, typeInfo, hi, Builtin.lenOf, Builtin.firstCells, storeCells]
  omega

/-- An append whose run is known. -/
theorem wpList_run_append {P : Program} {ops : Array Oper} {rest : List Oper} {o : Oper} {a : Act} {Q : Exit → Act → World → Prop} (hgd : o.guard = none) (s x : Operand) (t : TypeId)
  (ho : o.op = .call { callee := .builtin .append, args := #[s, x], argTypes := #[t, t] }) {v u res : Value} {w w' : World} (ty : TypeId) (hty : o.type = ty)
  (hr : (Builtin.append_ #[t, t] ty #[v, u]).run P w = .ok res w') (hs : a.eval s = v) (hx : a.eval x = u) (h : wpList P ops Q rest (a.put o.dst res) w') : wpList P ops Q (o :: rest) a w :=
 wpList_plain hgd fun _ hK => by
  unfold Oper.wp execOp
  simp only [ho, hty, resolve, invoke, builtin, Sem.run_bind, Sem.run_pure, Result.andThen_ok, List.map_toArray, List.map_cons, List.map_nil, hs, hx, hr]
  exact hK _ _ h

/-- append([]int{}, l...) -/
theorem copy_ints (w : World) (ra : Option Addr) (n c : Nat) (L : List Int) (hn : n ≤ 100000) (hL : Ints w ra n L) : ∃ la lc w', (Builtin.append_ #[22, 22] 22 #[.slice (some ⟨w.heap.size, 0, none⟩) 0 0, .slice ra n c]).run Tryz.prog (w.alloc (.cells #[] 3)) = .ok (.slice la n lc) w' ∧
  Below w.heap.size w w' ∧ OwnInts w' w.heap.size la n L := by
 obtain ⟨i0, hi, hz0, hz1, hz2⟩ := info_parts Tryz_infoInt
 have hown : (w.alloc (.cells #[] 3)).ownsRow w.heap.size 3 1 (.slice (some ⟨w.heap.size, 0, none⟩) 0 0) 0 [] := World.ownsRow_made w #[] 0 (Nat.le_refl _) (by unfold maxLen; omega) rfl
 cases ra with
 | none =>
  have h0 : n = 0 := by
   rcases Nat.eq_zero_or_pos n with h | h
   ·
    exact h
   ·
    obtain ⟨b, o, e, _⟩ := hL.2 0 h; simp at e
  subst h0
  exact ⟨_, _, _, append_nothing Tryz.underlying22 hi hown c, (Below.refl _ _).alloc (Nat.le_refl _) _, hL.1, fun h => absurd h (by omega)⟩
 | some ad =>
  have hnews : ∀ (j : Nat) (u : Value), (L.map (Value.int .i64))[j]? = some u → (w.alloc (.cells #[] 3)).cell? (ad.add j) = some u := by
   intro j u hj
   have hjn : j < n := by
    rw [← hL.1]
    rcases Nat.lt_or_ge j L.length with h | h
    ·
     exact h
    ·
     rw [List.getElem?_eq_none (by simpa using h)] at hj; simp at hj
   obtain ⟨b, o, e, hcell⟩ := hL.2 j hjn
   simp only [Option.some.injEq] at e
   subst e
   have e2 : (⟨b, o, none⟩ : Addr).add j = ⟨b, o + j, none⟩ := by unfold Addr.add; split <;> simp_all
   rw [e2, World.cell?_alloc_lt _ _ _ (cell_lt hcell), hcell]
   have hjl : j < L.length := by rw [hL.1]; exact hjn
   simp [hjl] at hj
   rw [← hj]
   simp [ix, List.getD_eq_getElem?_getD, hjl]
  obtain ⟨v', w', hr, h2, h3, _⟩ := run_append_own (P := Tryz.prog) (w.alloc (.cells #[] 3)) w.heap.size 22 22 3 i0 (.int .i64 0) 1 8 Tryz.underlying22 hi hz0 hz1 hz2 rfl (by decide) _ 0 [] hown ad n c (L.map (Value.int .i64))
   (by simp [hL.1]) hnews (by intro u hu; obtain ⟨x, _, rfl⟩ := List.mem_map.1 hu; rfl) (by unfold maxLen; omega) (by omega) (by simp)
  obtain ⟨la, lc, rfl, ho⟩ := OwnInts.of_row (L := L) (by simpa using h2)
  exact ⟨la, lc, w', hr, ((Below.refl _ _).alloc (Nat.le_refl _) _).grown h3 (by simp) (fun k hk => by simp [Value.ownBlock] at hk; omega), ho⟩

/-- append([]bool{}, l...) -/
theorem copy_bools (w : World) (ra : Option Addr) (n c : Nat) (L : List Bool) (hn : n ≤ 100000) (hL : Bools w ra n L) : ∃ la lc w', (Builtin.append_ #[77, 77] 77 #[.slice (some ⟨w.heap.size, 0, none⟩) 0 0, .slice ra n c]).run Tryz.prog (w.alloc (.cells #[] 4)) = .ok (.slice la n lc) w' ∧
  Below w.heap.size w w' ∧ OwnBools w' w.heap.size la n L := by
 obtain ⟨i0, hi, hz0, hz1, hz2⟩ := info_parts Tryz_infoBool
 have hown : (w.alloc (.cells #[] 4)).ownsRow w.heap.size 4 1 (.slice (some ⟨w.heap.size, 0, none⟩) 0 0) 0 [] := World.ownsRow_made w #[] 0 (Nat.le_refl _) (by unfold maxLen; omega) rfl
 cases ra with
 | none =>
  have h0 : n = 0 := by
   rcases Nat.eq_zero_or_pos n with h | h
   ·
    exact h
   ·
    obtain ⟨b, o, e, _⟩ := hL.2 0 h; simp at e
  subst h0
  exact ⟨_, _, _, append_nothing Tryz.underlying77 hi hown c, (Below.refl _ _).alloc (Nat.le_refl _) _, hL.1, fun h => absurd h (by omega)⟩
 | some ad =>
  have hnews : ∀ (j : Nat) (u : Value), (L.map Value.bool)[j]? = some u → (w.alloc (.cells #[] 4)).cell? (ad.add j) = some u := by
   intro j u hj
   have hjn : j < n := by
    rw [← hL.1]
    rcases Nat.lt_or_ge j L.length with h | h
    ·
     exact h
    ·
     rw [List.getElem?_eq_none (by simpa using h)] at hj; simp at hj
   obtain ⟨b, o, e, hcell⟩ := hL.2 j hjn
   simp only [Option.some.injEq] at e
   subst e
   have e2 : (⟨b, o, none⟩ : Addr).add j = ⟨b, o + j, none⟩ := by unfold Addr.add; split <;> simp_all
   rw [e2, World.cell?_alloc_lt _ _ _ (cell_lt hcell), hcell]
   have hjl : j < L.length := by rw [hL.1]; exact hjn
   simp [hjl] at hj
   rw [← hj]
   simp [bx, List.getD_eq_getElem?_getD, hjl]
  obtain ⟨v', w', hr, h2, h3, _⟩ := run_append_own (P := Tryz.prog) (w.alloc (.cells #[] 4)) w.heap.size 77 77 4 i0 (.bool false) 1 1 Tryz.underlying77 hi hz0 hz1 hz2 rfl (by decide) _ 0 [] hown ad n c (L.map Value.bool)
   (by simp [hL.1]) hnews (by intro u hu; obtain ⟨x, _, rfl⟩ := List.mem_map.1 hu; rfl) (by unfold maxLen; omega) (by omega) (by simp)
  obtain ⟨la, lc, rfl, ho⟩ := OwnBools.of_row (L := L) (by simpa using h2)
  exact ⟨la, lc, w', hr, ((Below.refl _ _).alloc (Nat.le_refl _) _).grown h3 (by simp) (fun k hk => by simp [Value.ownBlock] at hk; omega), ho⟩

/-! ### The plain function -/
/-- A run in which a group sits, and of which one place is left. -/
def oneLeft (left : List Int) (used : List Bool) (r : Nat) : Bool := bx used r && decide (ix left r = 1)

def badRun (single : Bool) (left : List Int) (used : List Bool) (r : Nat) : Prop := single = true ∧ oneLeft left used r = true

/-- What the runs before r bring. -/
def bestLoop (go : List Int → List Bool → Int) (s v : Int) (left : List Int) (used : List Bool) (out : Int) : Nat → Int
 | 0 => out
 | r + 1 => if ix left r < s then bestLoop go s v left used out r
   else if 0 ≤ go (left.set r (ix left r - s)) (used.set r true) then max (bestLoop go s v left used out r) (go (left.set r (ix left r - s)) (used.set r true) + s * v) else bestLoop go s v left used out r

/-- The greatest value that the groups from g on can bring; -1 if nothing is permitted. -/
def bestF (single : Bool) (G : List (Int × Int)) : Nat → Nat → List Int → List Bool → Int
 | 0, _, left, used => if single = true ∧ ∃ r, r < left.length ∧ oneLeft left used r = true then -1 else 0
 | k + 1, g, left, used => bestLoop (bestF single G k (g + 1)) (gs G g) (gv G g) left used (bestF single G k (g + 1) left used) left.length

theorem bestLoop_bounds {go : List Int → List Bool → Int} {s v B : Int} {left : List Int} {used : List Bool} {out : Int} (hs : 0 ≤ s * v ∧ s * v ≤ 12000000) (_hB : 0 ≤ B) (hg : ∀ l u, -1 ≤ go l u ∧ go l u ≤ B) (ho : -1 ≤ out ∧ out ≤ B) :
  ∀ r, -1 ≤ bestLoop go s v left used out r ∧ bestLoop go s v left used out r ≤ B + 12000000 := by
 intro r
 induction r with
 | zero => rw [bestLoop]; omega
 | succ r ih =>
  rw [bestLoop]
  have := hg (left.set r (ix left r - s)) (used.set r true)
  split
  ·
   exact ih
  ·
   split <;> omega

theorem bestF_bounds {single : Bool} {G : List (Int × Int)} (hv : ValuesOk G) : ∀ (k g : Nat) (left : List Int) (used : List Bool), g + k = G.length → -1 ≤ bestF single G k g left used ∧ bestF single G k g left used ≤ 12000000 * k := by
 intro k
 induction k with
 | zero => intro g left used _; rw [bestF]; split <;> omega
 | succ k ih =>
  intro g left used hg
  rw [bestF]
  have hgg := hv g (by omega)
  have h1 : gs G g * gv G g ≤ 12 * gv G g := Int.mul_le_mul_of_nonneg_right hgg.1.2 hgg.2.1
  have h0 : 0 ≤ gs G g * gv G g := Int.mul_nonneg (by omega) (by omega)
  have := bestLoop_bounds (go := bestF single G k (g + 1)) (s := gs G g) (v := gv G g) (B := 12000000 * k) (left := left) (used := used) (out := bestF single G k (g + 1) left used) (by omega) (by omega)
   (fun l u => ih (g + 1) l u (by omega)) (ih (g + 1) left used (by omega)) left.length
  omega
end Go.Proofs.YthabgljdndbphaaGreatDoor

namespace Go.Proofs.YthabgljdndbphaaGreatDoor
open Go.RowKit Go.IntWalk






end Go.Proofs.YthabgljdndbphaaGreatDoor
