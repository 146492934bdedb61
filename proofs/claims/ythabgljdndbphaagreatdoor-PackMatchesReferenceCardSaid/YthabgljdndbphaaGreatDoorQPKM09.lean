/- Pairs of integers as cells in a row: what an append of a slice of pairs lays; A slice of slices of pairs, each row in a block of its own: what an append to one row, stored back, leaves of the others; What fit.Legal asks, plain; and the empty rows that it makes; A map from integers to integers as a stack: what a look-up, a new key and the striking of the last one do; foyerref22.Valid; A block of cells that holds bools. -/
import Derived.Test.YthabgljdndbphaaGreatDoorQPKM08
import Derived.Maps.AppendAt
import Derived.MapKept

set_option linter.unusedVariables false
set_option linter.unusedSimpArgs false
namespace Go.Proofs.YthabgljdndbphaaGreatDoor
open Go.RowKit

def pcells : List (Int × Int) → List Value
 | [] => []
 | g :: G => .int .i64 g.1 :: .int .i64 g.2 :: pcells G

theorem pcells_length (G : List (Int × Int)) : (pcells G).length = G.length * 2 := by
 induction G with
 | nil => rfl
 | cons g G ih => rw [pcells, List.length_cons, List.length_cons, ih, List.length_cons]; omega


theorem gs_cons (g : Int × Int) (G : List (Int × Int)) (k : Nat) : gs (g :: G) (k + 1) = gs G k := by unfold gs; simp [List.getD]
theorem gv_cons (g : Int × Int) (G : List (Int × Int)) (k : Nat) : gv (g :: G) (k + 1) = gv G k := by unfold gv; simp [List.getD]

theorem pcells_get (G : List (Int × Int)) : ∀ k, k < G.length → (pcells G)[k * 2]? = some (.int .i64 (gs G k)) ∧ (pcells G)[k * 2 + 1]? = some (.int .i64 (gv G k)) := by
 induction G with
 | nil => intro k hk; simp at hk
 | cons g G ih =>
  intro k hk
  cases k with
  | zero => rw [pcells]; exact ⟨rfl, rfl⟩
  | succ k =>
   have := ih k (by simpa using hk)
   rw [pcells, gs_cons, gv_cons, show (k + 1) * 2 = k * 2 + 1 + 1 from by omega, List.getElem?_cons_succ, List.getElem?_cons_succ, List.getElem?_cons_succ, List.getElem?_cons_succ]
   exact this


theorem PairRow.of_row {w : World} {B n : Nat} {T : TypeId} {v : Value} {G : List (Int × Int)} (hn : 0 < n) (h : w.ownsRow B T 2 v n (pcells G)) : ∃ g c, v = .slice (some ⟨g, 0, none⟩) n c ∧ n ≤ c ∧ B ≤ g ∧ G.length = n ∧ PairRow w g T G := by
 have hl : G.length = n := by have := h.1; rw [pcells_length] at this; omega
 rcases h.2 with ⟨_, h0⟩ | ⟨g, cap, cur, rfl, hb, hh, h1, _, h3, h4⟩
 ·
  omega
 ·
  refine ⟨g, cap, rfl, h1, hb, hl, cur, hh, by omega, fun k hk => ?_⟩
  obtain ⟨g1, g2⟩ := pcells_get G k hk
  rw [← h4] at g1 g2
  rw [List.getElem?_take_of_lt (by omega), Array.getElem?_toList] at g1 g2
  exact ⟨g1, g2⟩
end Go.Proofs.YthabgljdndbphaaGreatDoor

namespace Go.Proofs.YthabgljdndbphaaGreatDoor
open Go.RowKit

/-- A row of the list, behind a name that simp does not open. -/
def qx (Q : List (List (Int × Int))) (r : Nat) : List (Int × Int) := Q.getD r []

theorem qx_set (Q : List (List (Int × Int))) (r s : Nat) (x : List (Int × Int)) (h : r < Q.length) : qx (Q.set r x) s = if r = s then x else qx Q s := by
 unfold qx
 simp only [List.getD_eq_getElem?_getD, List.getElem?_set, h, if_true]
 split <;> rfl

/-- The block g holds slices; the one at r is the row r of Q, in a block of its own, from B on. -/
def Rows2 (w : World) (B g : Nat) (Q : List (List (Int × Int))) : Prop :=
 g < B ∧ ∃ vs : Array Value, w.heap[g]? = some (.cells vs 29 (0, 0)) ∧ (∀ r, r < Q.length → ∃ v, vs[r]? = some v ∧ w.ownsRow B 46 2 v (qx Q r).length (pcells (qx Q r))) ∧
  ∀ r s v u, r < Q.length → s < Q.length → r ≠ s → vs[r]? = some v → vs[s]? = some u → v.ownBlock = none ∨ v.ownBlock ≠ u.ownBlock

theorem Rows2.below {w w' : World} {B g : Nat} {Q : List (List (Int × Int))} (h : Rows2 w B g Q) (hb : Below w.heap.size w w') : Rows2 w' B g Q := by
 obtain ⟨h0, vs, h1, h2, h3⟩ := h
 refine ⟨h0, vs, ?_, fun r hr => ?_, h3⟩
 ·
  rw [hb.block g (lt_of_block h1)]; exact h1
 ·
  obtain ⟨v, e, ho⟩ := h2 r hr
  refine ⟨v, e, ho.1, ?_⟩
  rcases ho.2 with hn | ⟨b, cap, cur, rfl, hbb, hgg, rest⟩
  ·
   exact .inl hn
  ·
   exact .inr ⟨b, cap, cur, rfl, hbb, by rw [hb.block b (lt_of_block hgg)]; exact hgg, rest⟩

theorem Rows2.get {w : World} {B g : Nat} {Q : List (List (Int × Int))} (h : Rows2 w B g Q) (r : Nat) (hr : r < Q.length) :
  ∃ v, w.cell? ⟨g, r, none⟩ = some v ∧ w.ownsRow B 46 2 v (qx Q r).length (pcells (qx Q r)) := by
 obtain ⟨_, vs, h1, h2, _⟩ := h
 obtain ⟨v, e, ho⟩ := h2 r hr
 refine ⟨v, ?_, ho⟩
 simp only [World.cell?, h1]
 exact e

theorem Rows2.free {w : World} {B g : Nat} {Q : List (List (Int × Int))} (h : Rows2 w B g Q) (r : Nat) : w.frozen? ⟨g, r, none⟩ = false := by
 obtain ⟨_, vs, h1, _⟩ := h
 simp only [World.frozen?, h1]
 simp

theorem pcells_append (A C : List (Int × Int)) : pcells (A ++ C) = pcells A ++ pcells C := by
 induction A with
 | nil => rfl
 | cons a A ih => rw [List.cons_append, pcells, pcells, ih]; rfl

/-- One pair is appended to the row r, and the row is stored back. -/
theorem Rows2.push {w w1 : World} {B g : Nat} {Q : List (List (Int × Int))} (h : Rows2 w B g Q) (r : Nat) (hr : r < Q.length) (v v' : Value) (x : Int × Int) (hv : w.cell? ⟨g, r, none⟩ = some v)
  (hown : w1.ownsRow B 46 2 v' ((qx Q r).length + 1) (pcells (qx Q r) ++ pcells [x])) (hgrow : w.grownBy w1 v.ownBlock) (hat : v'.ownBlock = v.ownBlock ∨ ∃ b, v'.ownBlock = some b ∧ w.heap.size ≤ b) :
  Rows2 (w1.setCell ⟨g, r, none⟩ v') B g (Q.set r (qx Q r ++ [x])) := by
 obtain ⟨h0, vs, h1, h2, h3⟩ := h
 have hvr : vs[r]? = some v := by simp only [World.cell?, h1] at hv; exact hv
 have hg1 : w1.heap[g]? = some (.cells vs 29 (0, 0)) := by
  rw [hgrow.block g (lt_of_block h1) (fun e => ?_)]
  ·
   exact h1
  ·
   obtain ⟨u, e1, ho⟩ := h2 r hr
   rw [hvr] at e1
   obtain rfl : v = u := by simpa using e1
   have := (ho.lt g e.symm).1
   omega
 have hk : ∀ k, k ≠ g → (w1.setCell ⟨g, r, none⟩ v').heap[k]? = w1.heap[k]? := fun k hk => Below.heap_setCell _ _ _ _ hk
 refine ⟨h0, vs.setIfInBounds r v', ?_, fun s hs => ?_, fun s t u u' hs ht hst e1 e2 => ?_⟩
 ·
  simp [World.setCell, Array.getElem?_modify, hg1]
 ·
  rw [List.length_set] at hs
  by_cases hrs : r = s
  ·
   subst hrs
   rw [qx_set _ _ _ _ hr, if_pos rfl]
   have hrz : r < vs.size := (Array.getElem?_eq_some_iff.1 hvr).1
   refine ⟨v', by simp [hrz], ?_⟩
   rw [List.length_append, pcells_append]
   refine ⟨hown.1, ?_⟩
   rcases hown.2 with hn | ⟨b, cap, cur, rfl, hbb, hgg, rest⟩
   ·
    exact .inl hn
   ·
    exact .inr ⟨b, cap, cur, rfl, hbb, by rw [hk b (by omega)]; exact hgg, rest⟩
  ·
   rw [qx_set _ _ _ _ hr, if_neg hrs]
   obtain ⟨u, e, ho⟩ := h2 s hs
   refine ⟨u, by rw [Array.getElem?_setIfInBounds, if_neg hrs]; exact e, ?_⟩
   have ho1 := ho.kept hgrow (h3 s r u v hs hr (fun e => hrs e.symm) e hvr)
   refine ⟨ho1.1, ?_⟩
   rcases ho1.2 with hn | ⟨b, cap, cur, rfl, hbb, hgg, rest⟩
   ·
    exact .inl hn
   ·
    exact .inr ⟨b, cap, cur, rfl, hbb, by rw [hk b (by omega)]; exact hgg, rest⟩
 ·
  rw [List.length_set] at hs ht
  have fresh : ∀ y u, y < Q.length → y ≠ r → vs[y]? = some u → (u.ownBlock = none ∨ u.ownBlock ≠ v'.ownBlock) ∧ (v'.ownBlock = none ∨ v'.ownBlock ≠ u.ownBlock) := by
   intro y u hy hyr e
   have a1 := h3 y r u v hy hr hyr e hvr
   have a2 := h3 r y v u hr hy (fun e => hyr e.symm) hvr e
   rcases hat with hh | ⟨b, hb, hbl⟩
   ·
    rw [hh]; exact ⟨a1, a2⟩
   ·
    rw [hb]
    obtain ⟨u', e', ho⟩ := h2 y hy
    rw [e] at e'
    obtain rfl : u = u' := by simpa using e'
    cases hu : u.ownBlock with
    | none => simp
    | some k => have := (ho.lt k hu).2; simp; omega
  by_cases hrs : r = s
  ·
   subst hrs
   have hrz : r < vs.size := (Array.getElem?_eq_some_iff.1 hvr).1
   rw [Array.getElem?_setIfInBounds, if_pos rfl, if_pos hrz] at e1
   rw [Array.getElem?_setIfInBounds, if_neg hst] at e2
   obtain rfl : v' = u := by simpa using e1
   exact (fresh t u' ht (fun e => hst e.symm) e2).2
  ·
   rw [Array.getElem?_setIfInBounds, if_neg hrs] at e1
   by_cases hrt : r = t
   ·
    subst hrt
    have hrz : r < vs.size := (Array.getElem?_eq_some_iff.1 hvr).1
    rw [Array.getElem?_setIfInBounds, if_pos rfl, if_pos hrz] at e2
    obtain rfl : v' = u' := by simpa using e2
    exact (fresh s u hs (fun e => hrs e.symm) e1).1
   ·
    rw [Array.getElem?_setIfInBounds, if_neg hrt] at e2
    exact h3 s t u u' hs ht hst e1 e2
end Go.Proofs.YthabgljdndbphaaGreatDoor

namespace Go.Proofs.YthabgljdndbphaaGreatDoor
open Go.RowKit

/-- A spot that is no place of its run. -/
def badSpot (R : List Int) (s t f : Int) : Prop := t < 0 ∨ R.length ≤ t ∨ f < 0 ∨ ix R t.toNat - s < f

instance (R : List Int) (s t f : Int) : Decidable (badSpot R s t f) := by unfold badSpot; infer_instance

/-- The rows and the value after the first spots; none if one of them is bad. -/
def placed (R : List Int) (G S : List (Int × Int)) : Nat → Option (List (List (Int × Int)) × Int)
 | 0 => some (List.replicate R.length [], 0)
 | i + 1 => (placed R G S i).bind fun q =>
   if gs S i = -1 ∧ gv S i = 0 then some q
   else if badSpot R (gs G i) (gs S i) (gv S i) then none
   else some (q.1.set (gs S i).toNat (qx q.1 (gs S i).toNat ++ [(gs G i, gv S i)]), q.2 + gs G i * gv G i)

theorem placed_none (R : List Int) (G S : List (Int × Int)) (i : Nat) (h : placed R G S i = none) : ∀ n, i ≤ n → placed R G S n = none := by
 intro n
 induction n with
 | zero =>
  intro hi
  obtain rfl : i = 0 := by omega
  exact h
 | succ n ih =>
  intro hi
  by_cases e : i = n + 1
  ·
   subst e; exact h
  ·
   rw [placed, ih (by omega)]; rfl

theorem placed_length (R : List Int) (G S : List (Int × Int)) : ∀ i q, placed R G S i = some q → q.1.length = R.length := by
 intro i
 induction i with
 | zero => intro q h; simp [placed] at h; subst h; simp
 | succ i ih =>
  intro q h
  rw [placed] at h
  cases hp : placed R G S i with
  | none => rw [hp] at h; simp at h
  | some p =>
   rw [hp] at h
   simp only [Option.bind_some] at h
   have hl := ih p hp
   split at h
   ·
    simp at h; subst h; exact hl
   ·
    split at h
    ·
     simp at h
    ·
     simp at h; subst h; simpa using hl

/-- Every pair that was put down: its size is a group's size, its place lies in the run. -/
def RowsIn (R : List Int) (Q : List (List (Int × Int))) : Prop := ∀ r, r < R.length → ∀ x ∈ qx Q r, (1 ≤ x.1 ∧ x.1 ≤ 12) ∧ 0 ≤ x.2 ∧ x.2 + x.1 ≤ ix R r

theorem placed_in {R : List Int} {G S : List (Int × Int)} (hv : ValuesOk G) : ∀ i q, i ≤ G.length → placed R G S i = some q → RowsIn R q.1 := by
 intro i
 induction i with
 | zero => intro q _ h; simp [placed] at h; subst h; intro r hr x hx; simp [qx, List.getD, hr] at hx
 | succ i ih =>
  intro q hi h
  rw [placed] at h
  cases hp : placed R G S i with
  | none => rw [hp] at h; simp at h
  | some p =>
   rw [hp] at h
   simp only [Option.bind_some] at h
   have hl := ih p (by omega) hp
   have hlen := placed_length R G S i p hp
   split at h
   ·
    simp at h; subst h; exact hl
   ·
    split at h
    ·
     simp at h
    ·
     rename_i hb
     simp at h; subst h
     intro r hr x hx
     unfold badSpot at hb
     dsimp only at hx
     rw [qx_set _ _ _ _ (by rw [hlen]; omega)] at hx
     split at hx
     ·
      rename_i e
      rcases List.mem_append.mp hx with hx | hx
      ·
       rw [e] at hx; exact hl r hr x hx
      ·
       rw [List.mem_singleton.mp hx]
       have := (hv i (by omega)).1
       rw [e] at hb
       dsimp only
       omega
     ·
      exact hl r hr x hx


/-- Where a row ends that is gone through in order; none where it is not permitted. -/
def chain (single : Bool) (at0 : Int) : List (Int × Int) → Option Int
 | [] => some at0
 | x :: L => if x.2 < at0 ∨ (single = true ∧ x.2 = at0 + 1) then none else chain single (x.2 + x.1) L

/-- A row in order is permitted in its run. -/
def rowOk (single : Bool) (n : Int) (L : List (Int × Int)) : Bool :=
 match chain single 0 L with
 | none => false
 | some e => !(single && (decide (0 < e) && decide (e = n - 1)))

/-- Some order of the row, by places, is permitted. -/
def RowLegal (single : Bool) (n : Int) (L : List (Int × Int)) : Prop := ∃ L', L'.Perm L ∧ L'.Pairwise (fun a b => a.2 ≤ b.2) ∧ rowOk single n L' = true

/-- A packing is permitted, and has its value. -/
def LegalP (single : Bool) (R : List Int) (G S : List (Int × Int)) (V : Int) : Prop :=
 validS R G = true ∧ S.length = G.length ∧ ∃ q, placed R G S S.length = some q ∧ (∀ r, r < R.length → RowLegal single (ix R r) (qx q.1 r)) ∧ q.2 = V

theorem chain_lt (single : Bool) : ∀ (L : List (Int × Int)) (a e : Int), (∀ x ∈ L, 1 ≤ x.1) → chain single a L = some e → (∀ x ∈ L, a ≤ x.2) ∧ L.Pairwise (fun a b => a.2 < b.2) := by
 intro L
 induction L with
 | nil => intro a e _ _; exact ⟨fun x hx => absurd hx (by simp), List.Pairwise.nil⟩
 | cons x L ih =>
  intro a e hs h
  rw [chain] at h
  split at h
  ·
   simp at h
  ·
   rename_i hc
   have h1 := hs x (by simp)
   obtain ⟨i1, i2⟩ := ih _ e (fun y hy => hs y (by simp [hy])) h
   refine ⟨fun y hy => ?_, List.Pairwise.cons (fun y hy => ?_) i2⟩
   ·
    rcases List.mem_cons.mp hy with rfl | hy
    ·
     omega
    ·
     have := i1 y hy; omega
   ·
    have := i1 y hy; omega

/-- Two orders of one row, of which one is permitted: they are the same. -/
theorem sorted_same : ∀ (A B : List (Int × Int)), A.Perm B → A.Pairwise (fun a b => a.2 < b.2) → B.Pairwise (fun a b => a.2 ≤ b.2) → A = B := by
 intro A
 induction A with
 | nil => intro B h _ _; exact (List.nil_perm.mp h).symm
 | cons a A ih =>
  intro B h hA hB
  cases B with
  | nil => exact absurd h.length_eq (by simp)
  | cons b B =>
   rw [List.pairwise_cons] at hA hB
   have hab : a = b := by
    have hb : b ∈ a :: A := h.mem_iff.mpr (by simp)
    have ha : a ∈ b :: B := h.mem_iff.mp (by simp)
    rcases List.mem_cons.mp hb with e | hb
    ·
     exact e.symm
    ·
     rcases List.mem_cons.mp ha with e | ha
     ·
      exact e
     ·
      have := hA.1 b hb; have := hB.1 a ha; omega
   subst hab
   rw [ih B (List.Perm.cons_inv h) hA.2 hB.2]

theorem rowLegal_iff (single : Bool) (n : Int) (L L' : List (Int × Int)) (hs : ∀ x ∈ L, 1 ≤ x.1) (hp : L'.Perm L) (ho : L'.Pairwise (fun a b => a.2 ≤ b.2)) : RowLegal single n L ↔ rowOk single n L' = true := by
 constructor
 ·
  rintro ⟨K, hK, hK2, hK3⟩
  have hc : ∃ e, chain single 0 K = some e := by
   unfold rowOk at hK3
   cases h : chain single 0 K with
   | none => rw [h] at hK3; simp at hK3
   | some e => exact ⟨e, rfl⟩
  obtain ⟨e, hc⟩ := hc
  have hlt := (chain_lt single K 0 e (fun x hx => hs x (hK.mem_iff.mp hx)) hc).2
  rw [← sorted_same K L' (hK.trans hp.symm) hlt ho]
  exact hK3
 ·
  intro h; exact ⟨L', hp, ho, h⟩

theorem make_rows (n : Nat) (hn : n ≤ 4000) : ∃ arr : Array Value, arr.size = n ∧ (∀ k, k < n → arr[k]? = some (.slice none 0 0)) ∧
  ∀ w : World, (Instr.makeSlice 72 (.int .i64 (n : Int)) (.int .i64 (n : Int))).run Tryz.prog w = .ok (.slice (some ⟨w.heap.size, 0, none⟩) n n) (w.alloc (.cells arr 29)) := by
 have hinfo : (Tryz.prog.info? 29).map (fun i => (i.zero, i.size, i.bytes)) = some (some (.slice none 0 0), 1, 24) := by kernel_rfl
 obtain ⟨i, hi, hzz⟩ := Option.map_eq_some_iff.1 hinfo
 simp only [Prod.mk.injEq] at hzz
 obtain ⟨hz, hs, hb⟩ := hzz
 refine ⟨madeCells #[.slice none 0 0] n, size_madeCells _ _, fun k hk => ?_, fun w => ?_⟩
 ·
  simp only [madeCells, Array.getElem?_map, Array.getElem?_range, hk]
  simp [Nat.mod_one]
 ·
  have h := run_make (P := Tryz.prog) w 72 29 i (.slice none 0 0) Tryz.underlying72 hi hz .i64 .i64 n n (by omega) (Int.le_refl _) (by rw [hb]; omega) (by omega)
  rw [hs] at h
  simpa [Value.cells] using h

theorem Rows2.made {w : World} {arr : Array Value} {n g : Nat} (hg : g = w.heap.size) (hz : ∀ k, k < n → arr[k]? = some (.slice none 0 0)) : Rows2 (w.alloc (.cells arr 29)) (g + 1) g (List.replicate n []) := by
 subst hg
 refine ⟨by omega, arr, by show (w.heap.push _)[w.heap.size]? = _; simp, fun r hr => ?_, fun r s v u hr hs _ e1 _ => ?_⟩
 ·
  rw [List.length_replicate] at hr
  have e : qx (List.replicate n []) r = [] := by simp [qx, List.getD, hr]
  rw [e]
  exact ⟨_, hz r hr, World.ownsRow_nil _ _ _ _⟩
 ·
  rw [List.length_replicate] at hr
  rw [hz r hr] at e1
  obtain rfl : Value.slice none 0 0 = v := by simpa using e1
  exact Or.inl rfl
end Go.Proofs.YthabgljdndbphaaGreatDoor

namespace Go.Proofs.YthabgljdndbphaaGreatDoor
open Go.RowKit

/-- The block b is a map that holds these pairs, in this order. -/
def IMap (w : World) (b : Nat) (es : List (Int × Int)) : Prop :=
 ∃ arr clock, w.heap[b]? = some (.map arr clock) ∧ arr.toList.map (fun e => (e.key, e.val)) = es.map (fun p => (Value.int .i64 p.1, Value.int .i64 p.2))

theorem IMap.below {w w' : World} {b : Nat} {es : List (Int × Int)} (h : IMap w b es) (hb : Below w.heap.size w w') : IMap w' b es := by
 obtain ⟨arr, clock, h1, h2⟩ := h
 exact ⟨arr, clock, by rw [hb.block b (lt_of_block h1)]; exact h1, h2⟩

theorem IMap.of_heap {w w' : World} {b : Nat} {es : List (Int × Int)} (h : IMap w b es) (e : w'.heap[b]? = w.heap[b]?) : IMap w' b es := by
 obtain ⟨arr, clock, h1, h2⟩ := h
 exact ⟨arr, clock, by rw [e]; exact h1, h2⟩

/-- What is found for a key: where, and the value. -/
def findI (k : Int) : List (Int × Int) → Nat → Option (Nat × Int)
 | [], _ => none
 | p :: es, i => if p.1 = k then some (i, p.2) else findI k es (i + 1)

theorem findNow_ints (k : Int) : ∀ (es : List (Int × Int)) (l : List MapEntry) (i : Nat), l.map (fun e => (e.key, e.val)) = es.map (fun p => (Value.int .i64 p.1, Value.int .i64 p.2)) →
  Instr.findNow (.int .i64) (.int .i64 k) l i = some ((findI k es i).map fun q => (q.1, Value.int .i64 q.2)) := by
 intro es
 induction es with
 | nil => intro l i h; simp at h; subst h; rfl
 | cons p es ih =>
  intro l i h
  cases l with
  | nil => simp at h
  | cons e l =>
   simp only [List.map_cons, List.cons.injEq, Prod.mk.injEq] at h
   obtain ⟨⟨h1, h2⟩, h3⟩ := h
   rw [Instr.findNow, h1, findI]
   by_cases e1 : p.1 = k
   ·
    rw [if_pos e1]
    simp [Instr.sameNow, e1, h2]
   ·
    rw [if_neg e1]
    have e2 : (k == p.1) = false := by simp; exact fun h => e1 h.symm
    simp [Instr.sameNow, e2, ih l (i + 1) h3]

theorem lookup_run {w : World} {b : Nat} {es : List (Int × Int)} (h : IMap w b es) (k : Int) (ok : Bool) :
  (Instr.lookup 79 (.map (some b)) (.int .i64 k) ok).run Tryz.prog w =
   .ok (if ok then .tuple #[.int .i64 (((findI k es 0).map Prod.snd).getD 0), .bool (findI k es 0).isSome] else .int .i64 (((findI k es 0).map Prod.snd).getD 0)) w := by
 obtain ⟨arr, clock, h1, h2⟩ := h
 have hz : (zeroValue 3).run Tryz.prog w = .ok (.int .i64 0) w := Tryz.zeroValue3 w
 have hf := MapKept.run_findKey (w := w) Tryz.underlying3 (findNow_ints k es arr.toList 0 h2)
 have hk : MapKept.IsKey (.int .i64) (.int .i64 k) := by exact rfl
 have hc := MapKept.run_checkKey (w := w) Tryz.underlying3 hk arr.isEmpty 9999
 cases hq : findI k es 0 with
 | none =>
  rw [hq] at hf
  simp [Instr.lookup, run_underlying Tryz.underlying79, MapKept.run_getObj_map h1, hc, hf, hz, Result.andThen]
 | some q =>
  rw [hq] at hf
  simp [Instr.lookup, run_underlying Tryz.underlying79, MapKept.run_getObj_map h1, hc, hf, Result.andThen]

theorem findI_none {k : Int} : ∀ {es : List (Int × Int)} {i : Nat}, (∀ p ∈ es, p.1 ≠ k) → findI k es i = none := by
 intro es
 induction es with
 | nil => intro i _; rfl
 | cons p es ih =>
  intro i h
  rw [findI, if_neg (h p (by simp))]
  exact ih (fun q hq => h q (by simp [hq]))

theorem findI_last {k v : Int} : ∀ {es : List (Int × Int)} {i : Nat}, (∀ p ∈ es, p.1 ≠ k) → findI k (es ++ [(k, v)]) i = some (i + es.length, v) := by
 intro es
 induction es with
 | nil => intro i _; simp [findI]
 | cons p es ih =>
  intro i h
  rw [List.cons_append, findI, if_neg (h p (by simp)), ih (fun q hq => h q (by simp [hq]))]
  simp; omega

/-- A new key is put behind the others. -/
theorem update_run {w : World} {b : Nat} {es : List (Int × Int)} (h : IMap w b es) (k v : Int) (hn : ∀ p ∈ es, p.1 ≠ k) :
  ∃ o, (Instr.mapUpdate 79 (.map (some b)) (.int .i64 k) (.int .i64 v)).run Tryz.prog w = .ok () { w with heap := w.heap.setIfInBounds b o } ∧ IMap { w with heap := w.heap.setIfInBounds b o } b (es ++ [(k, v)]) := by
 obtain ⟨arr, clock, h1, h2⟩ := h
 have hf := MapKept.run_findKey (w := w) Tryz.underlying3 (findNow_ints k es arr.toList 0 h2)
 rw [findI_none hn] at hf
 have hk : MapKept.IsKey (.int .i64) (.int .i64 k) := by exact rfl
 have hc := MapKept.run_checkKey (w := w) Tryz.underlying3 hk false 9999
 refine ⟨.map (arr.push ⟨.int .i64 k, .int .i64 v, clock⟩) (clock + 1), ?_, _, _, (MapKept.heap_set h1).1, ?_⟩
 ·
  simp [Instr.mapUpdate, run_underlying Tryz.underlying79, MapKept.run_getObj_map h1, MapKept.run_setObj_map _ h1, hc, hf, Result.andThen]
 ·
  simp [h2]

/-- The last key is struck. -/
theorem delete_run {w : World} {b : Nat} {es : List (Int × Int)} {k v : Int} (h : IMap w b (es ++ [(k, v)])) (hn : ∀ p ∈ es, p.1 ≠ k) :
  ∃ o, (∀ T, (Builtin.delete_ #[79, 3] T #[.map (some b), .int .i64 k]).run Tryz.prog w = .ok (.tuple #[]) { w with heap := w.heap.setIfInBounds b o }) ∧ IMap { w with heap := w.heap.setIfInBounds b o } b es := by
 obtain ⟨arr, clock, h1, h2⟩ := h
 have hf := MapKept.run_findKey (w := w) Tryz.underlying3 (findNow_ints k _ arr.toList 0 h2)
 rw [findI_last hn] at hf
 have hk : MapKept.IsKey (.int .i64) (.int .i64 k) := by exact rfl
 have hc := MapKept.run_checkKey (w := w) Tryz.underlying3 hk arr.isEmpty 9999
 refine ⟨.map (arr.eraseIdxIfInBounds es.length) clock, ?_, _, _, (MapKept.heap_set h1).1, ?_⟩
 ·
  intro T
  simp [Builtin.delete_, run_underlying Tryz.underlying79, MapKept.run_getObj_map h1, MapKept.run_setObj_map _ h1, hc, hf, Result.andThen]
 ·
  have hl : arr.size = es.length + 1 := by have := congrArg List.length h2; simpa using this
  have e : (arr.eraseIdxIfInBounds es.length).toList = arr.toList.eraseIdx es.length := by simp [Array.eraseIdxIfInBounds, hl]
  have e2 : arr.toList.eraseIdx es.length = arr.toList.take es.length := by
   rw [List.eraseIdx_eq_take_drop_succ, List.drop_of_length_le (by simp [hl]), List.append_nil]
  rw [e, e2, List.map_take, h2]
  simp
end Go.Proofs.YthabgljdndbphaaGreatDoor

namespace Go.Proofs.YthabgljdndbphaaGreatDoor
open Go.RowKit

theorem drop_pair (G : List (Int × Int)) (i : Nat) (h : i < G.length) : G.drop i = (gs G i, gv G i) :: G.drop (i + 1) := by
 have e : (gs G i, gv G i) = G[i] := by simp [gs, gv, List.getD_eq_getElem?_getD, h]
 rw [e, List.drop_eq_getElem_cons h]

set_option maxRecDepth 10000 in
set_option maxHeartbeats 1600000 in
theorem refvalid_any (ra ga : Option Addr) (n c m d : Nat) (single b : Bool) (R : List Int) (G : List (Int × Int)) (w : World)
  (hn : n ≤ 4000) (hm : m ≤ 4000) (hR : Ints w ra n R) (hG : Pairs w ga m G) (hb : validS R G = b) :
  Calls Tryz.prog 10 #[.agg #[.slice ra n c, .slice ga m d, .bool single]] w fun e w' => e = .returned (.bool b) ∧ Below w.heap.size w w' := by
 have HB := Lib.hid hb; have HR := Lib.hid hR; have HG := Lib.hid hG
 clear hb hR hG
 go_enter Tryz.func10, Tryz.ntmps10
 go_wp2
 go_loopw [3, 4] (fun v3 k wr => ∃ (i : Nat) (all : Int), i ≤ n ∧ v3 = .int .i64 all ∧ k = .int .i64 i ∧ 0 ≤ all ∧ all ≤ 4000 ∧ wr.cell? ⟨w.heap.size, 0, none⟩ = some (.slice ra n c) ∧ wr.cell? ⟨w.heap.size, 1, none⟩ = some (.slice ga m d) ∧ Below w.heap.size w wr ∧
   w.heap.size + 1 ≤ wr.heap.size ∧ Hid (runsOk 4000 R = runsOk (4000 - all) (R.drop i)))
  (fun _ k _ => n - (intOf k).toNat)
 case atStart => exact ⟨0, 0, Nat.zero_le _, rfl, rfl, by omega, by omega, by simp [go_sem], by simp [go_sem], (Below.refl _ _).alloc (Nat.le_refl _) _, by simp, rfl⟩
 case round =>
  obtain ⟨i, all, hi, rfl, rfl, hl0, hl1, hp0, hp1, hbl, hsz, HF⟩ := hrel
  by_cases hlt : i < n
  ·
   obtain ⟨bb, o, rfl, r1⟩ := (HR.out.below hbl).2 i hlt
   have HD := Lib.hid (drop_ix R i (by rw [HR.out.1]; exact hlt))
   obtain ⟨x, hx⟩ : ∃ x, x = ix R i := ⟨_, rfl⟩
   rw [← hx] at r1 HD
   clear hx
   by_cases h1 : x < 1
   ·
    have HX : Hid (validS R G = false) := by simp [Hid, validS, HF.out, HD.out, runsOk, h1]
    go_wp2
    go_ret
    exact ⟨by rw [← HB.out, HX.out]; rfl, hbl⟩
   ·
    by_cases h2 : 4000 < x
    ·
     have HX : Hid (validS R G = false) := by
      have : 4000 - all < x := by omega
      simp [Hid, validS, HF.out, HD.out, runsOk, this]
     go_wp2
     go_ret
     exact ⟨by rw [← HB.out, HX.out]; rfl, hbl⟩
    ·
     by_cases h3 : 4000 < all + x
     ·
      have HX : Hid (validS R G = false) := by
       have : 4000 - all < x := by omega
       simp [Hid, validS, HF.out, HD.out, runsOk, this]
      go_wp2
      go_ret
      exact ⟨by rw [← HB.out, HX.out]; rfl, hbl⟩
     ·
      have HX : Hid (runsOk (4000 - all) (R.drop i) = runsOk (4000 - (all + x)) (R.drop (i + 1))) := by
       have : ¬ (x < 1 ∨ 4000 - all < x) := by omega
       rw [HD.out]; simp only [Hid, runsOk]; rw [if_neg this]; congr 1; omega
      go_wp2
      go_roundw
      case rel => exact ⟨i + 1, all + x, by omega, rfl, by go_num, by omega, by omega, hp0, hp1, hbl, hsz, by rw [HF.out, HX.out]; rfl⟩
      case measure => simp [intOf]; omega
  ·
   have H0 : Hid (validS R G = groupsOk G) := by
    have : R.drop i = [] := List.drop_eq_nil_of_le (by rw [HR.out.1]; omega)
    have h2 := HF.out; rw [this] at h2
    simp [Hid, validS, h2, runsOk, HG.out.1, hm]
   go_wp2
   obtain ⟨wo, rfl⟩ : ∃ wo : World, wo = wr := ⟨_, rfl⟩
   go_loopw [5, 6] (fun v5 _ wr => ∃ k : Nat, k ≤ m ∧ v5 = .int .i64 k ∧ wr.cell? ⟨w.heap.size, 1, none⟩ = some (.slice ga m d) ∧ Below w.heap.size w wr ∧ w.heap.size + 1 ≤ wr.heap.size ∧ Hid (groupsOk G = groupsOk (G.drop k)))
    (fun v5 _ _ => m - (intOf v5).toNat)
   case atStart => exact ⟨0, Nat.zero_le _, rfl, hp1, hbl, hsz, rfl⟩
   case round =>
    clear hp0 hp1 hbl hsz HF
    obtain ⟨k, hk, rfl, hp1, hbl, hsz, HF⟩ := hrel
    by_cases hlt2 : k < m
    ·
     obtain ⟨bg, og, rfl, c1, c2⟩ := (HG.out.below hbl).2 k hlt2
     have HD := Lib.hid (drop_pair G k (by rw [HG.out.1]; exact hlt2))
     obtain ⟨s, hs⟩ : ∃ x, x = gs G k := ⟨_, rfl⟩
     obtain ⟨v, hv⟩ : ∃ x, x = gv G k := ⟨_, rfl⟩
     rw [← hs] at c1 HD; rw [← hv] at c2 HD
     clear hs hv
     have hbl2 : ∀ o, Below w.heap.size w (wr.alloc o) := fun o => hbl.alloc hbl.size o
     have HBL2 := Lib.hid hbl2
     have HBL := Lib.hid hbl
     clear hbl hbl2
     have HBAD : Hid (badG s v = true → validS R G = false) := fun h => by rw [H0.out, HF.out, HD.out]; simp [groupsOk, h]
     by_cases h1 : s < 1
     ·
      have HX : Hid (validS R G = false) := HBAD.out (by simp [badG, h1])
      go_wp2
      go_ret
      exact ⟨by rw [← HB.out, HX.out]; rfl, HBL2.out _⟩
     ·
      by_cases h2 : 12 < s
      ·
       have HX : Hid (validS R G = false) := HBAD.out (by simp [badG, h2])
       go_wp2
       go_ret
       exact ⟨by rw [← HB.out, HX.out]; rfl, HBL2.out _⟩
      ·
       by_cases h3 : v < 0
       ·
        have HX : Hid (validS R G = false) := HBAD.out (by simp [badG, h3])
        go_wp2
        go_ret
        exact ⟨by rw [← HB.out, HX.out]; rfl, HBL2.out _⟩
       ·
        by_cases h4 : 1000000 < v
        ·
         have HX : Hid (validS R G = false) := HBAD.out (by simp [badG, h4])
         go_wp2
         go_ret
         exact ⟨by rw [← HB.out, HX.out]; rfl, HBL2.out _⟩
        ·
         have HX : Hid (groupsOk (G.drop k) = groupsOk (G.drop (k + 1))) := by
          rw [HD.out]; simp [Hid, groupsOk, badG]; omega
         have hne := World.new_ne wr _ hp1
         go_wp2
         go_roundw
         case rel => exact ⟨k + 1, by omega, by go_num, by rw [World.cell?_alloc_lt _ _ _ (cell_lt hp1)]; exact hp1, HBL2.out _, by simp; omega, by rw [HF.out, HX.out]; rfl⟩
         case measure => simp [intOf]; omega
    ·
     have HX : Hid (validS R G = true) := by
      rw [H0.out, HF.out, List.drop_eq_nil_of_le (by rw [HG.out.1]; omega)]; rfl
     go_wp2
     go_ret
     exact ⟨by rw [← HB.out, HX.out]; rfl, hbl⟩
end Go.Proofs.YthabgljdndbphaaGreatDoor

namespace Go.Proofs.YthabgljdndbphaaGreatDoor
open Go.RowKit

/-- An entry of a list of bools, behind a name that simp does not open. -/
def bx (l : List Bool) (i : Nat) : Bool := l.getD i false

/-- The address and length read as the bools xs. -/
def Bools (w : World) (ra : Option Addr) (n : Nat) (xs : List Bool) : Prop :=
 xs.length = n ∧ ∀ k, k < n → ∃ b o, ra = some ⟨b, o, none⟩ ∧ w.cell? ⟨b, o + k, none⟩ = some (.bool (bx xs k))

theorem Bools.below {w w' : World} {ra : Option Addr} {n : Nat} {xs : List Bool} (h : Bools w ra n xs) (hb : Below w.heap.size w w') : Bools w' ra n xs :=
 ⟨h.1, fun k hk => let ⟨b, o, e, c⟩ := h.2 k hk; ⟨b, o, e, Below.cell_of hb c⟩⟩

def BoolRow (w : World) (g : Nat) (T : TypeId) (D : List Bool) : Prop :=
 ∃ arr : Array Value, w.heap[g]? = some (.cells arr T (0, 0)) ∧ D.length ≤ arr.size ∧ ∀ k, k < D.length → arr[k]? = some (.bool (bx D k))

theorem BoolRow.lt {w : World} {g : Nat} {T : TypeId} {D : List Bool} (h : BoolRow w g T D) : g < w.heap.size :=
 let ⟨_, e, _⟩ := h; lt_of_block e

theorem BoolRow.cell {w : World} {g : Nat} {T : TypeId} {D : List Bool} (h : BoolRow w g T D) (k : Nat) (hk : k < D.length) : w.cell? ⟨g, k, none⟩ = some (.bool (bx D k)) := by
 obtain ⟨arr, e, _, c⟩ := h
 simp only [World.cell?, e]
 exact c k hk

theorem BoolRow.free {w : World} {g : Nat} {T : TypeId} {D : List Bool} (h : BoolRow w g T D) (k : Nat) : w.frozen? ⟨g, k, none⟩ = false := by
 obtain ⟨arr, e, _, c⟩ := h
 simp only [World.frozen?, e]
 simp

theorem bx_set (D : List Bool) (i j : Nat) (v : Bool) (hi : i < D.length) : bx (D.set i v) j = if i = j then v else bx D j := by
 unfold bx
 simp only [List.getD_eq_getElem?_getD, List.getElem?_set, hi, if_true]
 split <;> rfl

theorem BoolRow.set {w : World} {g : Nat} {T : TypeId} {D : List Bool} (h : BoolRow w g T D) (i : Nat) (hi : i < D.length) (v : Bool) : BoolRow (w.setCell ⟨g, i, none⟩ (.bool v)) g T (D.set i v) := by
 obtain ⟨arr, e, s, c⟩ := h
 refine ⟨arr.setIfInBounds i (.bool v), ?_, by simpa using s, fun k hk => ?_⟩
 ·
  simp [World.setCell, Array.getElem?_modify, e]
 ·
  rw [List.length_set] at hk
  rw [Array.getElem?_setIfInBounds, bx_set _ _ _ _ hi]
  by_cases hik : i = k
  ·
   rw [if_pos hik, if_pos hik, if_pos (by omega)]
  ·
   rw [if_neg hik, if_neg hik]; exact c k hk


theorem BoolRow.of_heap {w w' : World} {g : Nat} {T : TypeId} {S : List Bool} (h : BoolRow w g T S) (e : w'.heap[g]? = w.heap[g]?) : BoolRow w' g T S := by
 obtain ⟨arr, e1, r⟩ := h
 exact ⟨arr, e.trans e1, r⟩

theorem BoolRow.bools {w : World} {g : Nat} {T : TypeId} {D : List Bool} (h : BoolRow w g T D) : Bools w (some ⟨g, 0, none⟩) D.length D :=
 ⟨rfl, fun k hk => ⟨g, 0, rfl, by rw [Nat.zero_add]; exact h.cell k hk⟩⟩

theorem BoolRow.made {w : World} {arr : Array Value} {T : TypeId} {n g : Nat} (hg : g = w.heap.size) (hs : arr.size = n) (hz : ∀ k, k < n → arr[k]? = some (.bool false)) : BoolRow (w.alloc (.cells arr T)) g T (List.replicate n false) := by
 subst hg
 refine ⟨arr, ?_, by simp [hs], fun k hk => ?_⟩
 ·
  show (w.heap.push _)[w.heap.size]? = _
  simp
 ·
  rw [List.length_replicate] at hk
  rw [hz k hk]
  simp [bx, List.getD_eq_getElem?_getD, hk]

theorem make_bools (n : Nat) (hn : n ≤ 4000) : ∃ arr : Array Value, arr.size = n ∧ (∀ k, k < n → arr[k]? = some (.bool false)) ∧
  ∀ w : World, (Instr.makeSlice 77 (.int .i64 (n : Int)) (.int .i64 (n : Int))).run Tryz.prog w = .ok (.slice (some ⟨w.heap.size, 0, none⟩) n n) (w.alloc (.cells arr 4)) := by
 refine ⟨madeCells #[.bool false] n, size_madeCells _ _, fun k hk => ?_, fun w => ?_⟩
 ·
  simp [madeCells, hk, Nat.mod_one]
 ·
  exact run_make_row' 77 4 (.bool false) 1 Tryz.underlying77 (by kernel_rfl) rfl .i64 .i64 n (by omega) (by omega) w

/-- A slice of bools of the call's own: where it has elements it starts a block from B on. -/
def OwnBools (w : World) (B : Nat) (la : Option Addr) (n : Nat) (L : List Bool) : Prop :=
 L.length = n ∧ (0 < n → ∃ g, la = some ⟨g, 0, none⟩ ∧ B ≤ g ∧ BoolRow w g 4 L)

theorem OwnBools.of_row {w : World} {B n : Nat} {v : Value} {L : List Bool} (h : w.ownsRow B 4 1 v n (L.map Value.bool)) : ∃ la c, v = .slice la n c ∧ OwnBools w B la n L := by
 have hl : L.length = n := by have := h.1; simpa using this
 rcases h.2 with ⟨rfl, h0⟩ | ⟨g, cap, cur, rfl, hb, hh, h1, _, h3, h4⟩
 ·
  subst h0; exact ⟨none, 0, rfl, hl, fun h => absurd h (by omega)⟩
 ·
  refine ⟨_, _, rfl, hl, fun _ => ⟨g, rfl, hb, cur, hh, by omega, fun k hk => ?_⟩⟩
  have h5 : (cur.toList.take (n * 1))[k]? = (L.map Value.bool)[k]? := by rw [h4]
  rw [List.getElem?_take_of_lt (by omega)] at h5
  simp only [Array.getElem?_toList, List.getElem?_map] at h5
  rw [h5]
  simp [bx, List.getD_eq_getElem?_getD, hk]

theorem Tryz_infoBool : (Tryz.prog.info? 4).map (fun i => (i.zero, i.size, i.bytes)) = some (some (.bool false), 1, 1) := by kernel_rfl
end Go.Proofs.YthabgljdndbphaaGreatDoor
