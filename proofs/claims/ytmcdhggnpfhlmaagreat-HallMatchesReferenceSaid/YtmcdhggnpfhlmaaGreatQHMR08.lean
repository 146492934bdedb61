/- maps with integer keys: whatever values, as they stand; hall: maps from numbers to bools; hall: the checker: row. -/
import Derived.Test.YtmcdhggnpfhlmaaGreatQHMR00
import Derived.Test.YtmcdhggnpfhlmaaGreatQHMR07
import Derived.Maps.Own
import Derived.Maps.OwnSet
import Derived.Maps.Views
import Derived.Carry

set_option linter.unusedVariables false
set_option linter.unusedSimpArgs false
namespace Go.Proofs.YtmcdhggnpfhlmaaGreat
open Go.RowKit Go.IntWalk Go.Maps Go.WideMaps

abbrev EntT := Int × Value

/-- A map's element reads as itself. -/
def RV (v : Value) : Option (DataW Value × List MemPlace) := some (.held v, [])
theorem RV_inv {v u : Value} {ps : List MemPlace} (h : RV v = some (.held u, ps)) : v = u := by
 unfold RV at h
 simp at h
 exact h.1

def entV (x : EntT) : Lit × DataW Value := (.int .i64 x.1, .held x.2)
def mapV (E : List EntT) : DataW Value := .map (E.map entV)
def AscV (E : List EntT) : Prop := E.Pairwise fun a b => a.1 < b.1

theorem sameV (a b : Int) : (Lit.int .i64 a).sameKey (.int .i64 b) = decide (a = b) := by simp [Lit.sameKey]
theorem beforeV (a b : Int) : (Lit.int .i64 a).before (.int .i64 b) = decide (a < b) := rfl

theorem mapV_size (E : List EntT) : Maps.size (mapV E) = E.length := by
 unfold mapV
 rw [size_eq, List.length_map]

def putV (E : List EntT) (k : Int) (v : Value) : List EntT :=
 match E with
 | [] => [(k, v)]
 | y :: E => if k < y.1 then (k, v) :: y :: E else if k = y.1 then (k, v) :: E else y :: putV E k v

def lookV (E : List EntT) (k : Int) : Option Value := (E.find? fun x => decide (x.1 = k)).map (·.2)

theorem filterV (k : Int) : ∀ E : List EntT, (E.map entV).filter (fun p => !p.1.sameKey (.int .i64 k)) = (E.filter fun y => !decide (y.1 = k)).map entV
 | [] => rfl
 | x :: E => by
  rw [List.map_cons, List.filter_cons, List.filter_cons, filterV k E]
  show (if (!(Lit.int .i64 x.1).sameKey (.int .i64 k)) = true then _ else _) = _
  rw [sameV]
  by_cases h : x.1 = k <;> simp [h]

theorem insertV (k : Int) (v : Value) : ∀ E : List EntT, AscV E → DataW.insert (entV (k, v)) ((E.filter fun y => !decide (y.1 = k)).map entV) = (putV E k v).map entV
 | [], _ => rfl
 | y :: E, ha => by
  have ha' := List.pairwise_cons.mp ha
  unfold putV
  by_cases h1 : k < y.1
  ·
   have hf : ∀ z ∈ y :: E, (!decide (z.1 = k)) = true := fun z hz => by
    rcases List.mem_cons.mp hz with rfl | hz
    ·
     simp; omega
    ·
     have := ha'.1 z hz
     simp; omega
   rw [if_pos h1, List.filter_eq_self.mpr hf]
   show (if (Lit.int .i64 k).before (.int .i64 y.1) = true then _ else _) = _
   rw [beforeV, if_pos (by simp; omega)]
   rfl
  ·
   rw [if_neg h1]
   by_cases h2 : k = y.1
   ·
    have hf : ∀ z ∈ E, (!decide (z.1 = k)) = true := fun z hz => by
     have := ha'.1 z hz
     simp; omega
    rw [if_pos h2, List.filter_cons, if_neg (by simp; omega), List.filter_eq_self.mpr hf]
    cases E with
    | nil => rfl
    | cons z E =>
     have := ha'.1 z (List.mem_cons_self ..)
     show (if (Lit.int .i64 k).before (.int .i64 z.1) = true then _ else _) = _
     rw [beforeV, if_pos (by simp; omega)]
     rfl
   ·
    rw [if_neg h2, List.filter_cons, if_pos (by simp; omega), List.map_cons, List.map_cons]
    show (if (Lit.int .i64 k).before (.int .i64 y.1) = true then _ else _) = _
    rw [beforeV, if_neg (by simp; omega), insertV k v E ha'.2]

theorem mapV_put {E : List EntT} (h : AscV E) (k : Int) (v : Value) : (mapV E).put (.int .i64 k) (.held v) = mapV (putV E k v) := by
 show DataW.map (DataW.insert (entV (k, v)) _) = DataW.map _
 rw [filterV, insertV k v E h]

theorem putV_mem {E : List EntT} (h : AscV E) (k : Int) (v : Value) (x : EntT) : x ∈ putV E k v ↔ x = (k, v) ∨ (x ∈ E ∧ x.1 ≠ k) := by
 induction E with
 | nil => simp [putV]
 | cons y E ih =>
  have h' := List.pairwise_cons.mp h
  unfold putV
  by_cases h1 : k < y.1
  ·
   rw [if_pos h1, List.mem_cons]
   constructor
   ·
    rintro (e | e)
    ·
     exact Or.inl e
    ·
     refine Or.inr ⟨e, ?_⟩
     rcases List.mem_cons.mp e with rfl | e
     ·
      omega
     ·
      have := h'.1 x e; omega
   ·
    rintro (e | e)
    ·
     exact Or.inl e
    ·
     exact Or.inr e.1
  ·
   rw [if_neg h1]
   by_cases h2 : k = y.1
   ·
    rw [if_pos h2, List.mem_cons]
    constructor
    ·
     rintro (e | e)
     ·
      exact Or.inl e
     ·
      exact Or.inr ⟨List.mem_cons_of_mem _ e, by have := h'.1 x e; omega⟩
    ·
     rintro (e | ⟨e, hne⟩)
     ·
      exact Or.inl e
     ·
      rcases List.mem_cons.mp e with rfl | e
      ·
       exact absurd h2.symm hne
      ·
       exact Or.inr e
   ·
    rw [if_neg h2, List.mem_cons, ih h'.2]
    constructor
    ·
     rintro (e | e | e)
     ·
      exact Or.inr ⟨by rw [e]; exact List.mem_cons_self .., by rw [e]; omega⟩
     ·
      exact Or.inl e
     ·
      exact Or.inr ⟨List.mem_cons_of_mem _ e.1, e.2⟩
    ·
     rintro (e | ⟨e, hne⟩)
     ·
      exact Or.inr (Or.inl e)
     ·
      rcases List.mem_cons.mp e with rfl | e
      ·
       exact Or.inl rfl
      ·
       exact Or.inr (Or.inr ⟨e, hne⟩)

theorem putV_asc {E : List EntT} (h : AscV E) (k : Int) (v : Value) : AscV (putV E k v) := by
 induction E with
 | nil => exact List.pairwise_singleton _ _
 | cons y E ih =>
  have h' := List.pairwise_cons.mp h
  unfold putV
  by_cases h1 : k < y.1
  ·
   rw [if_pos h1]
   refine List.pairwise_cons.mpr ⟨fun z hz => ?_, h⟩
   rcases List.mem_cons.mp hz with rfl | hz
   ·
    exact h1
   ·
    have := h'.1 z hz
    show k < z.1
    omega
  ·
   rw [if_neg h1]
   by_cases h2 : k = y.1
   ·
    rw [if_pos h2]
    exact List.pairwise_cons.mpr ⟨fun z hz => by have := h'.1 z hz; show k < z.1; omega, h'.2⟩
   ·
    rw [if_neg h2]
    refine List.pairwise_cons.mpr ⟨fun z hz => ?_, ih h'.2⟩
    rcases (putV_mem h'.2 k v z).mp hz with rfl | hz
    ·
     show y.1 < k; omega
    ·
     exact h'.1 z hz.1

theorem look_mem {E : List EntT} (h : AscV E) {k : Int} {v : Value} : lookV E k = some v ↔ (k, v) ∈ E := by
 induction E with
 | nil => simp [lookV]
 | cons y E ih =>
  have h' := List.pairwise_cons.mp h
  have ih := ih h'.2
  unfold lookV at *
  rw [List.find?_cons, List.mem_cons]
  by_cases e : y.1 = k
  ·
   simp only [e, decide_true, Option.map_some, Option.some.injEq]
   constructor
   ·
    intro hv; left; rw [← hv, ← e]
   ·
    rintro (hv | hv)
    ·
     rw [← hv]
    ·
     have := h'.1 _ hv; simp at this; omega
  ·
   simp only [e, decide_false]
   rw [ih]
   constructor
   ·
    exact Or.inr
   ·
    rintro (hv | hv)
    ·
     rw [← hv] at e; exact absurd rfl e
    ·
     exact hv

theorem look_none {E : List EntT} {k : Int} : lookV E k = none ↔ ∀ x ∈ E, x.1 ≠ k := by
 unfold lookV
 rw [Option.map_eq_none_iff, List.find?_eq_none]
 exact ⟨fun h x hx e => h x hx (by simp [e]), fun h x hx e => h x hx (by simpa using e)⟩

theorem look_put {E : List EntT} (h : AscV E) (k : Int) (v : Value) (j : Int) : lookV (putV E k v) j = if j = k then some v else lookV E j := by
 by_cases e : j = k
 ·
  rw [if_pos e, look_mem (putV_asc h k v), putV_mem h, e]
  exact Or.inl rfl
 ·
  rw [if_neg e]
  cases hl : lookV E j with
  | none =>
   rw [look_none] at hl ⊢
   intro x hx
   rcases (putV_mem h k v x).mp hx with rfl | hx
   ·
    exact fun h => e h.symm
   ·
    exact hl x hx.1
  | some u =>
   rw [look_mem h] at hl
   rw [look_mem (putV_asc h k v), putV_mem h]
   exact Or.inr ⟨hl, e⟩

theorem findV (k : Int) : ∀ E : List EntT, (E.map entV).find? (fun p => p.1.sameKey (.int .i64 k)) = (E.find? fun x => decide (x.1 = k)).map entV
 | [] => rfl
 | x :: E => by
  rw [List.map_cons, List.find?_cons, List.find?_cons]
  show (match (Lit.int .i64 x.1).sameKey (.int .i64 k) with | true => _ | false => _) = _
  rw [sameV]
  by_cases h : x.1 = k
  ·
   simp [h]
  ·
   simp only [h, decide_false]
   exact findV k E

theorem mapV_at (E : List EntT) (k : Int) (z : DataW Value) : (mapV E).atKey (.int .i64 k) z = match lookV E k with | some v => .held v | none => z := by
 unfold mapV DataW.atKey lookV
 simp only [findV]
 cases E.find? fun x => decide (x.1 = k) <;> rfl


/-- The bound on a map's entries may be what it reads as. -/
theorem tightV {w : World} {P : Program} {k : TypeId} {M n : Nat} {E : List EntT} (h : w.ownsMap P k RV M n (mapV E)) : w.ownsMap P k RV M E.length (mapV E) := by
 obtain ⟨es, clock, h1, h2, _, h4⟩ := h
 refine ⟨es, clock, h1, h2, ?_, h4⟩
 have := congrArg Maps.size h4
 rw [mapV_size, size_eq, length_sorted] at this
 simp at this
 omega
end Go.Proofs.YtmcdhggnpfhlmaaGreat

namespace Go.Proofs.YtmcdhggnpfhlmaaGreat
open Go.RowKit Go.IntWalk Go.Maps Go.WideMaps
set_option linter.unusedSimpArgs false
set_option linter.unusedVariables false

theorem lawI : Keyed Tryz.prog 3 := int_keyed Tryz.underlying3

section
variable {tm te : TypeId} {z : Value} {w : World} {M n : Nat} {E : List EntT} {k : Int}
theorem lookV_no (ht : Tryz.prog.underlying tm = some (.map 3 te)) (hz : (zeroValue te).run Tryz.prog w = .ok z w) (h : w.ownsMap Tryz.prog 3 RV M n (mapV E)) (hk : (Lit.int .i64 k).wf = true) :
  (Instr.lookup tm (.map (some M)) (.int .i64 k) false).run Tryz.prog w = .ok ((lookV E k).getD z) w := by
 obtain ⟨v, ps, hrun, hv⟩ := h.lookup lawI ht hz (zd := .held z) (zp := []) rfl (keyOf_int_mk Tryz.underlying3 hk)
 rw [mapV_at] at hv
 rw [hrun]
 cases hf : lookV E k with
 | none => rw [hf] at hv; rw [RV_inv hv]; rfl
 | some x => rw [hf] at hv; rw [RV_inv hv]; rfl
end

theorem ownsMap_heap {w w' : World} {P : Program} {k : TypeId} {M n : Nat} {D : DataW Value} (h : w.ownsMap P k RV M n D) (e : w'.heap[M]? = w.heap[M]?) : w'.ownsMap P k RV M n D := by
 obtain ⟨es, clock, h1, r⟩ := h
 exact ⟨es, clock, e.trans h1, r⟩
theorem ownsMap_blk {w : World} {P : Program} {k : TypeId} {M n : Nat} {D : DataW Value} (h : w.ownsMap P k RV M n D) : ∃ es clock, w.heap[M]? = some (.map es clock) := let ⟨es, c, e, _⟩ := h; ⟨es, c, e⟩

theorem putV_len : ∀ (E : List EntT) (k : Int) (v : Value), (putV E k v).length ≤ E.length + 1
 | [], _, _ => Nat.le_refl _
 | y :: E, k, v => by
  unfold putV
  by_cases h1 : k < y.1
  ·
   rw [if_pos h1]; simp
  ·
   rw [if_neg h1]
   by_cases h2 : k = y.1
   ·
    rw [if_pos h2]; simp
   ·
    rw [if_neg h2]
    have := putV_len E k v
    simp
    omega

/-- A map of bools, of the call's own, with at most n entries. -/
def BMap (w : World) (M n : Nat) (f : Int → Bool) : Prop := ∃ E : List EntT, AscV E ∧ w.ownsMap Tryz.prog 3 RV M E.length (mapV E) ∧ E.length ≤ n ∧ ∀ k, (lookV E k).getD (.bool false) = .bool (f k)

theorem BMap.made (w : World) : BMap (w.alloc (.map #[] 0)) w.heap.size 0 (fun _ => false) := ⟨[], List.Pairwise.nil, World.ownsMap_made _ _ _ _, Nat.le_refl _, fun k => rfl⟩
theorem BMap.heap {w w' : World} {M n : Nat} {f : Int → Bool} (h : BMap w M n f) (e : w'.heap[M]? = w.heap[M]?) : BMap w' M n f :=
 let ⟨E, a, b, c, d⟩ := h; ⟨E, a, ownsMap_heap b e, c, d⟩
theorem BMap.blk {w : World} {M n : Nat} {f : Int → Bool} (h : BMap w M n f) : ∃ es clock, w.heap[M]? = some (.map es clock) := let ⟨_, _, b, _⟩ := h; ownsMap_blk b
theorem BMap.down {w w' : World} {M n : Nat} {f : Int → Bool} (h : BMap w M n f) (hb : Below w.heap.size w w') : BMap w' M n f := h.heap (by
 obtain ⟨es, c, e⟩ := h.blk
 exact hb.block M (lt_of_block e))
theorem BMap.look {w : World} {M n : Nat} {f : Int → Bool} {k : Int} (h : BMap w M n f) (hk : (Lit.int .i64 k).wf = true) : (Instr.lookup 92 (.map (some M)) (.int .i64 k) false).run Tryz.prog w = .ok (.bool (f k)) w := by
 obtain ⟨E, _, b, _, d⟩ := h
 rw [lookV_no Tryz.underlying92 (z := .bool false) (by kernel_rfl) b hk, d k]
theorem BMap.set {w : World} {M n : Nat} {f : Int → Bool} {k : Int} (h : BMap w M n f) (hk : (Lit.int .i64 k).wf = true) (hn : n ≤ 1000000) (y : Bool) : ∃ w', (Instr.mapUpdate 92 (.map (some M)) (.int .i64 k) (.bool y)).run Tryz.prog w = .ok () w' ∧ BMap w' M (n + 1) (fun j => if j = k then y else f j) ∧ w.grownBy w' (some M) := by
 obtain ⟨E, a, b, c, d⟩ := h
 obtain ⟨w', h1, h2, h3⟩ := b.update lawI Tryz.underlying92 (by unfold maxLen; omega) (keyOf_int_mk Tryz.underlying3 hk) (val := .bool y) (d := .held (.bool y)) (ps := []) rfl
 rw [mapV_put a] at h2
 have hl : (putV E k (.bool y)).length ≤ E.length + 1 := putV_len E k _
 obtain ⟨es, clock, q1, q2, q3, q4⟩ := h2
 have h4 := tightV (E := putV E k (.bool y)) ⟨es, clock, q1, q2, q3, q4⟩
 refine ⟨w', h1, ⟨putV E k (.bool y), putV_asc a k _, h4, by omega, fun j => ?_⟩, h3⟩
 rw [look_put a]
 by_cases e : j = k
 ·
  simp [e]
 ·
  simp only [e, if_false]; exact d j
end Go.Proofs.YtmcdhggnpfhlmaaGreat

namespace Go.Proofs.YtmcdhggnpfhlmaaGreat
open Go.RowKit Go.IntWalk Go.Maps Go.WideMaps
set_option linter.unusedSimpArgs false
set_option linter.unusedVariables false

/-- A variable that holds a map. -/
def VarM (w : World) (g M : Nat) : Prop := w.heap[g]? = some (.cells #[.map (some M)] 92 (0, 0))
theorem VarM.down {w w' : World} {g M : Nat} (h : VarM w g M) (hb : Below w.heap.size w w') : VarM w' g M := (hb.block g (lt_of_block h)).trans h
theorem map_ne {w : World} {i j : Nat} {arr : Array Value} {T : TypeId} {x : Nat × Nat} (h1 : w.heap[i]? = some (.cells arr T x)) (h2 : ∃ es clock, w.heap[j]? = some (.map es clock)) : i ≠ j := by
 rintro rfl
 obtain ⟨es, c, h2⟩ := h2
 rw [h1] at h2
 cases h2

set_option maxRecDepth 100000 in
set_option maxHeartbeats 8000000 in
theorem cl_row2 (w : World) (m : MarkR) (gv M n : Nat) (f : Int → Bool) (hv : VarM w gv M) (hm : BMap w M n f) (hk : (Lit.int .i64 m.wth).wf = true) :
  Calls Tryz.prog 47 #[.agg #[.int .i64 m.kind, .int .i64 m.seat, .int .i64 m.wth], .pointer (some ⟨gv, 0, none⟩)] w fun e w' => e = .returned (.bool (decide (m.kind = 4) && !f m.wth)) ∧ Below w.heap.size w w' := by
 have HV := Lib.hid hv
 have HM := Lib.hid hm
 have HK := Lib.hid hk
 clear hv hm hk
 refine enter_fr (N := 14) [.agg #[.int .i64 m.kind, .int .i64 m.seat, .int .i64 m.wth], .pointer (some ⟨gv, 0, none⟩)] (Tryz.func47) rfl Tryz.ntmps47 (by rfl) (fun a hF => ?_);replace hF := hF.kp [0, 1] rfl;refine wp_seq_k (fun K hK => ?_);refine region_seq (l := [0, 1]) (by kernel_rfl) ?_;refine seq_one ?_;revert hF;refine qe1 fun a hF => ?_;revert hF;refine zre 1 [2] [1, 2] fun a hF => ?_;refine hK _ _ ?_;clear hK
 have HB := Lib.hid (Joins.below_alloc1 w (.cells #[.int .i64 m.kind, .int .i64 m.seat, .int .i64 m.wth] 46))
 have HX : Hid (MarkIn (w.alloc (.cells #[.int .i64 m.kind, .int .i64 m.seat, .int .i64 m.wth] 46)) w.heap.size m) := World.alloc_heap_new w _
 have HV1 := Lib.hid (HV.out.down HB.out)
 have HM1 := Lib.hid (HM.out.down HB.out)
 generalize w.alloc (.cells #[.int .i64 m.kind, .int .i64 m.seat, .int .i64 m.wth] 46) = w1 at *
 obtain ⟨g, hg⟩ : ∃ g, g = w.heap.size := ⟨_, rfl⟩
 rw [← hg] at hF HX
 clear hg HV HM
 obtain ⟨c0, c1, c2⟩ := HX.out.cells
 have c3 : w1.cell? ⟨gv, 0, none⟩ = some (.map (some M)) := boxed_cell (j := 0) HV1.out rfl
 have hl := HM1.out.look HK.out
 by_cases h4 : m.kind = 4
 rotate_left
 ·
  have hb : (m.kind == 4) = false := by simp [h4]
  have HR : Hid (decide (m.kind = 4) = false) := by simp [Hid, h4]
  clear h4
  revert hF;refine zrs [4, 4, 4, 1, 0, 0, 0, 0, 0, 5, 2] [3] fun a hF => ?_;refine wp_ret ?_;(try simp only [then_ret, block_ret, goto_ret]);revert hF;refine zq ?_
  exact ⟨by rw [HR.out]; rfl, HB.out⟩
 have hb : (m.kind == 4) = true := by simp [h4]
 have HR : Hid (decide (m.kind = 4) = true) := by simp [Hid, h4]
 clear h4
 revert hF;refine zrs [4, 4, 4, 1, 4, 4, 4, 5, 4, 5, 2] [3] fun a hF => ?_;refine wp_ret ?_;(try simp only [then_ret, block_ret, goto_ret]);revert hF;refine zq ?_
 exact ⟨by rw [HR.out]; rfl, HB.out⟩
end Go.Proofs.YtmcdhggnpfhlmaaGreat
