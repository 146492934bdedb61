/- What an argument's reading gives the walks of halls; hall: Build: at most 4000 places. -/
import Derived.Test.YtmcdhggnpfhlmaaQHCB31
import Derived.Test.YtmcdhggnpfhlmaaQHCB36
import Derived.Test.YtmcdhggnpfhlmaaQHCB37
import Derived.Test.YtmcdhggnpfhlmaaRows
import Derived.ProofKit
import Derived.OpenShut
import Derived.ChangeOld
import Derived.Below
import Derived.Deep.SlicePairs
import Derived.Deep.Slices
import Derived.Lib.SmallJoins
import Derived.ChangeMaps5
import Derived.SizedLaws

namespace Go.Proofs.Ytmcdhggnpfhlmaa
open Go.ChangeShapes Go.WideShapes Go.ChangeAt Go.RowKit Go.Deep Go.Joins Go.IntWalk
set_option linter.unusedSimpArgs false

section
variable {H : Type} {enc : TypeId × Value → H} {w : World} {base : Nat} {held : Bool}

theorem add_whole (b o k : Nat) : (⟨b, o, none⟩ : Addr).add k = ⟨b, o + k, none⟩ := by
  unfold Addr.add; split
  · subst_vars; rfl
  · rfl
theorem whole_of {b o : Nat} {s} {v : Value} (h : w.cell? ((Addr.mk b o s).add 0) = some v) : s = none := by
  simpa [Addr.add] using World.cell?_spot h

/-- What the form grants of a datum's room. -/
def Room (P : Program) (t : TypeId) (d : DataW H) : Prop := ∀ n ∈ d.weights P t, n ≤ reachBytes

theorem weights_mem_all {P : Program} {e : TypeId} : ∀ {ds : List (DataW H)} {d : DataW H}, d ∈ ds → ∀ n ∈ d.weights P e, n ∈ DataW.weightsAll P e ds
  | y :: ds, d, h, n, hn => by
    simp only [DataW.weightsAll, List.mem_append]
    rcases List.mem_cons.1 h with rfl | h
    · exact Or.inl hn
    · exact Or.inr (weights_mem_all h n hn)

theorem recs_room {α : Type} {k : Nat} [Inhabited α] (E : Enc α k) {ts te : TypeId} {bytes : Nat} (ht : Try.prog.underlying ts = some (.slice te)) (hk : Try.prog.cellsOf te = k) (hby : Try.prog.bytesOf te = bytes) (p : α → Prop)
    (hcell : ∀ (fuel : Nat) (cs : List Value) (x : DataW H × List MemPlace), DataW.trod enc Try.prog w base (fun _ => true) held fuel te cs = some x → Room Try.prog te x.1 → ∃ a, cs = E.cells a ∧ p a)
    {fuel : Nat} {v : Value} {x : DataW H × List MemPlace} (h : DataW.trod enc Try.prog w base (fun _ => true) held fuel ts [v] = some x) (hw : Room Try.prog ts x.1) :
    ∃ (ra : Option Addr) (n c : Nat) (l : List α), v = .slice ra n c ∧ n ≤ 9223372036854775807 ∧ n * bytes ≤ 140737488351232 ∧ n ≤ c ∧ Recs E w ra n l ∧ (ra = none → c = 0) ∧ ∀ a ∈ l, p a := by
  rcases open_slice ht h with ⟨hcs, _⟩ | ⟨a, len, cap, m, fu, D, P0, hcs, _, hl, hm, hmm, hxx, hx⟩
  · simp at hcs
    subst hcs
    exact ⟨none, 0, 0, [], rfl, by omega, by omega, by omega, Recs.none _, fun _ => rfl, fun i hi => by cases hi⟩
  · simp at hcs
    subst hcs
    simp only [if_true] at hmm
    subst hmm
    obtain ⟨b, o, s⟩ := a
    unfold maxLen at hm
    rw [hk] at hx
    rw [hxx] at hw
    unfold Room at hw
    simp only [DataW.weights, ht, List.mem_cons, List.mem_append] at hw
    have hsz := hw _ (Or.inl rfl)
    rw [hby, List.length_map, List.length_range] at hsz
    have hsz2 : len * bytes ≤ 140737488351232 := by
      have h2 : len * bytes ≤ (len + ((List.range (m - len)).map fun j => D (len + j)).length) * bytes := Nat.mul_le_mul_right _ (by omega)
      unfold reachBytes at hsz
      omega
    obtain ⟨F, hF⟩ := choose_lt (α := α) (p := fun i q => w.cells? base ((Addr.mk b o s).add (i * k)) k = some (E.cells q) ∧ p q) (n := len) (fun i hi => by
      obtain ⟨cs', h1, h2⟩ := hx i (by omega)
      obtain ⟨q, rfl, h3⟩ := hcell _ _ _ h2 (fun n hn => hw n (Or.inr (Or.inl (weights_mem_all (List.mem_map.2 ⟨i, List.mem_range.2 hi, rfl⟩) n hn))))
      exact ⟨q, h1, h3⟩)
    have hlen : ((List.range len).map F).length = len := by simp
    have hget : ∀ i (hi : i < len), ((List.range len).map F)[i]'(by rw [hlen]; exact hi) = F i := fun i hi => by simp
    refine ⟨some ⟨b, o, s⟩, len, m, (List.range len).map F, rfl, by omega, hsz2, hl, ⟨hlen, fun i hi => ?_⟩, (fun e => by cases e), fun q hq => ?_⟩
    · have hs : s = none := by
        obtain ⟨_, _, hc⟩ := World.cells?_some (hF 0 (by omega)).1
        have := hc 0 (by have := E.pos; omega)
        have h0 : 0 < (E.cells (F 0)).length := by rw [E.len]; exact E.pos
        rw [add_add, List.getElem?_eq_getElem h0, Nat.zero_mul, Nat.add_zero] at this
        exact whole_of this
      subst hs
      refine ⟨b, o, rfl, fun j hj => ?_⟩
      obtain ⟨_, _, hc⟩ := World.cells?_some (hF i hi).1
      have := hc j hj
      have hj' : j < (E.cells (F i)).length := by rw [E.len]; exact hj
      rw [add_add, add_whole, List.getElem?_eq_getElem hj'] at this
      rw [Nat.add_assoc, this, rc_eq _ _ (by rw [hlen]; exact hi), hget i hi, List.getD_eq_getElem?_getD, List.getElem?_eq_getElem hj']
      rfl
    · obtain ⟨i, hi, rfl⟩ := List.mem_map.mp hq
      exact (hF i (List.mem_range.mp hi)).2

/-- The fields of a struct, each with its room. -/
theorem fields_room {t : TypeId} {fs : Array Field} {fuel : Nat} {cs : List Value} {x : DataW H × List MemPlace} (ht : Try.prog.underlying t = some (.struct fs)) (h : DataW.trod enc Try.prog w base (fun _ => true) held fuel t cs = some x) (hw : Room Try.prog t x.1) :
    cs.length = Try.prog.cellsOf t ∧ ∃ n, ∀ (i : Nat) (f : Field), fs[i]? = some f → ∃ y, DataW.trod enc Try.prog w base (fun _ => true) held n f.type ((cs.drop f.offset).take (Try.prog.cellsOf f.type)) = some y ∧ Room Try.prog f.type y.1 := by
  obtain ⟨xs, n, _, rfl, hl, hlen, hf⟩ := DataW.trod_struct ht h
  refine ⟨hl, n, fun i f hi => ?_⟩
  have hil : i < xs.length := by
    rw [hlen]
    exact (Array.getElem?_eq_some_iff.1 hi).1
  have h1 := hf i f hi
  rw [List.getElem?_eq_getElem hil] at h1
  refine ⟨xs[i], h1, fun m hm => hw m ?_⟩
  simp only [DataW.weights, ht]
  refine DataW.weights_mem_each (j := i) (t := f.type) (d := xs[i].1) ?_ ?_ m hm
  · rw [List.getElem?_map, Array.getElem?_toList, hi]
    rfl
  · rw [List.getElem?_map, List.getElem?_eq_getElem hil]
    rfl

theorem take_at {cs : List Value} {o : Nat} {c : Value} (h : cs[o]? = some c) : (cs.drop o).take 1 = [c] := by
  obtain ⟨ho, e⟩ := List.getElem?_eq_some_iff.1 h
  rw [List.drop_eq_getElem_cons ho, e]
  rfl
theorem sub_field {o k : Nat} {ty : TypeId} {cs zs : List Value} (h : (cs.drop o).take (Try.prog.cellsOf ty) = zs) (hc : Try.prog.cellsOf ty = k) : (cs.drop o).take k = zs := by
  rw [← hc]
  exact h
theorem int_field {n o : Nat} {ty : TypeId} {cs : List Value} {c : Value} {y : DataW H × List MemPlace} (h : DataW.trod enc Try.prog w base (fun _ => true) held n ty ((cs.drop o).take (Try.prog.cellsOf ty)) = some y) (ht : Try.prog.underlying ty = some (.int .i64)) (hc : Try.prog.cellsOf ty = 1) (hg : cs[o]? = some c) : ∃ k, c = .int .i64 k ∧ (Lit.int .i64 k).wf = true := by
  rw [hc, take_at hg] at h
  obtain ⟨k, e, _, hw⟩ := DataW.trod_int ht h
  simp only [List.cons.injEq, and_true] at e
  exact ⟨k, e, hw⟩
theorem str_field {n o : Nat} {ty : TypeId} {cs : List Value} {c : Value} {y : DataW H × List MemPlace} (h : DataW.trod enc Try.prog w base (fun _ => true) held n ty ((cs.drop o).take (Try.prog.cellsOf ty)) = some y) (ht : Try.prog.underlying ty = some .string) (hc : Try.prog.cellsOf ty = 1) (hg : cs[o]? = some c) : ∃ s : List UInt8, c = .string (bs s) := by
  rw [hc, take_at hg] at h
  obtain ⟨t, e, _⟩ := DataW.trod_string ht h
  simp only [List.cons.injEq, and_true] at e
  exact ⟨t.data.toList, by rw [e, ← bs_of]⟩
/-- How long a text of an argument may be. -/
abbrev NB : Nat := 140737488351232
theorem str_room {n o : Nat} {ty : TypeId} {cs : List Value} {c : Value} {y : DataW H × List MemPlace} (h : DataW.trod enc Try.prog w base (fun _ => true) held n ty ((cs.drop o).take (Try.prog.cellsOf ty)) = some y) (hw : Room Try.prog ty y.1) (ht : Try.prog.underlying ty = some .string) (hc : Try.prog.cellsOf ty = 1) (hg : cs[o]? = some c) : ∃ s : List UInt8, c = .string (bs s) ∧ s.length ≤ NB := by
  rw [hc, take_at hg] at h
  obtain ⟨t, e, e2, _⟩ := DataW.trod_string ht h
  simp only [List.cons.injEq, and_true] at e
  refine ⟨t.data.toList, by rw [e, ← bs_of], ?_⟩
  rw [e2] at hw
  have := hw t.data.toList.length (by simp [DataW.weights])
  unfold reachBytes at this
  exact this
theorem one_field {n o : Nat} {ty : TypeId} {cs : List Value} {c : Value} {y : DataW H × List MemPlace} (h : DataW.trod enc Try.prog w base (fun _ => true) held n ty ((cs.drop o).take (Try.prog.cellsOf ty)) = some y) (hc : Try.prog.cellsOf ty = 1) (hg : cs[o]? = some c) : DataW.trod enc Try.prog w base (fun _ => true) held n ty [c] = some y := by
  rw [hc, take_at hg] at h
  exact h

instance : Inhabited MarkR := ⟨⟨0, 0, 0⟩⟩
instance : Inhabited BoxR := ⟨⟨0, 0, 0, 0⟩⟩
instance : Inhabited PntR := ⟨⟨0, 0⟩⟩
instance : Inhabited AreaR := ⟨⟨[], default, 0, 0⟩⟩
instance : Inhabited RowR := ⟨⟨[], 0, 0, 0, 0, 0, none, 0, 0, [], 0⟩⟩
instance : Inhabited BlkR := ⟨⟨[], none, 0, 0, [], 0⟩⟩
instance : Inhabited LevR := ⟨⟨[], 0, none, 0, 0, [], none, 0, 0, [], none, 0, 0, [], none, 0, 0, [], none, 0, 0, [], 0⟩⟩

theorem wf_le {n : Int} (h : (Lit.int .i64 n).wf = true) : n ≤ 9223372036854775807 := by
  have h2 : (decide (-9223372036854775808 ≤ n) && decide (n ≤ 9223372036854775807)) = true := h
  rw [Bool.and_eq_true] at h2
  exact of_decide_eq_true h2.2

set_option maxRecDepth 100000
theorem mark_cells (fuel : Nat) (cs : List Value) (x : DataW H × List MemPlace) (h : DataW.trod enc Try.prog w base (fun _ => true) held fuel 68 cs = some x) (hw : Room Try.prog 68 x.1) :
    ∃ m : MarkR, cs = MarkE.cells m ∧ (Lit.int .i64 m.seat).wf = true ∧ (Lit.int .i64 m.wth).wf = true := by
  obtain ⟨hl, n, hf⟩ := fields_room Try.underlying68 h hw
  rw [show Try.prog.cellsOf 68 = 3 from by kernel_rfl] at hl
  match cs, hl with
  | [c0, c1, c2], _ =>
    obtain ⟨y0, h0, _⟩ := hf 0 _ rfl
    obtain ⟨y1, h1, _⟩ := hf 1 _ rfl
    obtain ⟨y2, h2, _⟩ := hf 2 _ rfl
    obtain ⟨k0, e0, w0⟩ := int_field h0 (by kernel_rfl) (by kernel_rfl) rfl
    obtain ⟨k1, e1, w1⟩ := int_field h1 (by kernel_rfl) (by kernel_rfl) rfl
    obtain ⟨k2, e2, w2⟩ := int_field h2 (by kernel_rfl) (by kernel_rfl) rfl
    subst e0 e1 e2
    exact ⟨⟨k0, k1, k2⟩, rfl, w1, w2⟩
theorem box_cells (fuel : Nat) (cs : List Value) (x : DataW H × List MemPlace) (h : DataW.trod enc Try.prog w base (fun _ => true) held fuel 46 cs = some x) (hw : Room Try.prog 46 x.1) :
    ∃ m : BoxR, cs = BoxE.cells m ∧ True := by
  obtain ⟨hl, n, hf⟩ := fields_room Try.underlying46 h hw
  rw [show Try.prog.cellsOf 46 = 4 from by kernel_rfl] at hl
  match cs, hl with
  | [c0, c1, c2, c3], _ =>
    obtain ⟨y0, h0, _⟩ := hf 0 _ rfl
    obtain ⟨y1, h1, _⟩ := hf 1 _ rfl
    obtain ⟨y2, h2, _⟩ := hf 2 _ rfl
    obtain ⟨y3, h3, _⟩ := hf 3 _ rfl
    obtain ⟨k0, e0, w0⟩ := int_field h0 (by kernel_rfl) (by kernel_rfl) rfl
    obtain ⟨k1, e1, w1⟩ := int_field h1 (by kernel_rfl) (by kernel_rfl) rfl
    obtain ⟨k2, e2, w2⟩ := int_field h2 (by kernel_rfl) (by kernel_rfl) rfl
    obtain ⟨k3, e3, w3⟩ := int_field h3 (by kernel_rfl) (by kernel_rfl) rfl
    subst e0 e1 e2 e3
    exact ⟨⟨k0, k1, k2, k3⟩, rfl, trivial⟩
theorem pnt_cells (fuel : Nat) (cs : List Value) (x : DataW H × List MemPlace) (h : DataW.trod enc Try.prog w base (fun _ => true) held fuel 23 cs = some x) (hw : Room Try.prog 23 x.1) :
    ∃ m : PntR, cs = PntE.cells m ∧ True := by
  obtain ⟨hl, n, hf⟩ := fields_room Try.underlying23 h hw
  rw [show Try.prog.cellsOf 23 = 2 from by kernel_rfl] at hl
  match cs, hl with
  | [c0, c1], _ =>
    obtain ⟨y0, h0, _⟩ := hf 0 _ rfl
    obtain ⟨y1, h1, _⟩ := hf 1 _ rfl
    obtain ⟨k0, e0, w0⟩ := int_field h0 (by kernel_rfl) (by kernel_rfl) rfl
    obtain ⟨k1, e1, w1⟩ := int_field h1 (by kernel_rfl) (by kernel_rfl) rfl
    subst e0 e1
    exact ⟨⟨k0, k1⟩, rfl, trivial⟩
theorem area_cells (fuel : Nat) (cs : List Value) (x : DataW H × List MemPlace) (h : DataW.trod enc Try.prog w base (fun _ => true) held fuel 48 cs = some x) (hw : Room Try.prog 48 x.1) :
    ∃ m : AreaR, cs = AreaE.cells m ∧ m.name.length ≤ NB := by
  obtain ⟨hl, n, hf⟩ := fields_room Try.underlying48 h hw
  rw [show Try.prog.cellsOf 48 = 7 from by kernel_rfl] at hl
  match cs, hl with
  | [c0, c1, c2, c3, c4, c5, c6], _ =>
    obtain ⟨y0, h0, r0⟩ := hf 0 _ rfl
    obtain ⟨y1, h1, r1⟩ := hf 1 _ rfl
    obtain ⟨y2, h2, _⟩ := hf 2 _ rfl
    obtain ⟨y3, h3, _⟩ := hf 3 _ rfl
    obtain ⟨s0, e0, n0⟩ := str_room h0 r0 (by kernel_rfl) (by kernel_rfl) rfl
    obtain ⟨bx, e1, _⟩ := box_cells _ _ _ h1 r1
    have e1' : [c1, c2, c3, c4] = BoxE.cells bx := sub_field (ty := 46) (k := 4) (o := 1) (cs := [c0, c1, c2, c3, c4, c5, c6]) e1 (by kernel_rfl)
    obtain ⟨k2, e2, _⟩ := int_field h2 (by kernel_rfl) (by kernel_rfl) rfl
    obtain ⟨k3, e3, _⟩ := int_field h3 (by kernel_rfl) (by kernel_rfl) rfl
    obtain ⟨b0, b1, b2, b3⟩ := bx
    have e1'' : [c1, c2, c3, c4] = [.int .i64 b0, .int .i64 b1, .int .i64 b2, .int .i64 b3] := e1'
    simp only [List.cons.injEq, and_true] at e1''
    obtain ⟨q1, q2, q3, q4⟩ := e1''
    subst e0 q1 q2 q3 q4 e2 e3
    exact ⟨⟨s0, ⟨b0, b1, b2, b3⟩, k2, k3⟩, rfl, n0⟩
theorem row_cells (fuel : Nat) (cs : List Value) (x : DataW H × List MemPlace) (h : DataW.trod enc Try.prog w base (fun _ => true) held fuel 54 cs = some x) (hw : Room Try.prog 54 x.1) :
    ∃ r : RowR, cs = RowE.cells r ∧ r.In w ∧ r.name.length ≤ NB := by
  obtain ⟨hl, n, hf⟩ := fields_room Try.underlying54 h hw
  rw [show Try.prog.cellsOf 54 = 8 from by kernel_rfl] at hl
  match cs, hl with
  | [c0, c1, c2, c3, c4, c5, c6, c7], _ =>
    obtain ⟨y0, h0, r0⟩ := hf 0 _ rfl
    obtain ⟨y1, h1, _⟩ := hf 1 _ rfl
    obtain ⟨y2, h2, _⟩ := hf 2 _ rfl
    obtain ⟨y3, h3, _⟩ := hf 3 _ rfl
    obtain ⟨y4, h4, _⟩ := hf 4 _ rfl
    obtain ⟨y5, h5, _⟩ := hf 5 _ rfl
    obtain ⟨y6, h6, r6⟩ := hf 6 _ rfl
    obtain ⟨y7, h7, _⟩ := hf 7 _ rfl
    obtain ⟨s0, e0, n0⟩ := str_room h0 r0 (by kernel_rfl) (by kernel_rfl) rfl
    obtain ⟨k1, e1, _⟩ := int_field h1 (by kernel_rfl) (by kernel_rfl) rfl
    obtain ⟨k2, e2, _⟩ := int_field h2 (by kernel_rfl) (by kernel_rfl) rfl
    obtain ⟨k3, e3, _⟩ := int_field h3 (by kernel_rfl) (by kernel_rfl) rfl
    obtain ⟨k4, e4, _⟩ := int_field h4 (by kernel_rfl) (by kernel_rfl) rfl
    obtain ⟨k5, e5, w5⟩ := int_field h5 (by kernel_rfl) (by kernel_rfl) rfl
    obtain ⟨k7, e7, _⟩ := int_field h7 (by kernel_rfl) (by kernel_rfl) rfl
    obtain ⟨ra, rn, rc', l, e6, hn, _, _, hR, h0', hp⟩ := recs_room MarkE (bytes := 24) Try.underlying52 (by kernel_rfl) (by kernel_rfl) (fun m => (Lit.int .i64 m.seat).wf = true ∧ (Lit.int .i64 m.wth).wf = true) mark_cells (one_field h6 (by kernel_rfl) rfl) r6
    subst e0 e1 e2 e3 e4 e5 e6 e7
    exact ⟨⟨s0, k1, k2, k3, k4, k5, ra, rn, rc', l, k7⟩, rfl, ⟨hR, hn, h0', wf_le w5, hp⟩, n0⟩
/-- The names of a block, a level. -/
def BlkNm (b : BlkR) : Prop := b.name.length ≤ NB ∧ ∀ r ∈ b.rows, r.name.length ≤ NB
def LevNm (l : LevR) : Prop := l.name.length ≤ NB ∧ (∀ b ∈ l.blocks, BlkNm b) ∧ ∀ a ∈ l.areas, a.name.length ≤ NB
theorem blk_cells (fuel : Nat) (cs : List Value) (x : DataW H × List MemPlace) (h : DataW.trod enc Try.prog w base (fun _ => true) held fuel 57 cs = some x) (hw : Room Try.prog 57 x.1) :
    ∃ b : BlkR, cs = BlkE.cells b ∧ b.In w ∧ BlkNm b := by
  obtain ⟨hl, n, hf⟩ := fields_room Try.underlying57 h hw
  rw [show Try.prog.cellsOf 57 = 3 from by kernel_rfl] at hl
  match cs, hl with
  | [c0, c1, c2], _ =>
    obtain ⟨y0, h0, r0⟩ := hf 0 _ rfl
    obtain ⟨y1, h1, r1⟩ := hf 1 _ rfl
    obtain ⟨y2, h2, _⟩ := hf 2 _ rfl
    obtain ⟨s0, e0, n0⟩ := str_room h0 r0 (by kernel_rfl) (by kernel_rfl) rfl
    obtain ⟨k2, e2, _⟩ := int_field h2 (by kernel_rfl) (by kernel_rfl) rfl
    obtain ⟨ra, rn, rc', l, e1, hn, _, _, hR, _, hp⟩ := recs_room RowE (bytes := 88) Try.underlying55 (by kernel_rfl) (by kernel_rfl) (fun r => r.In w ∧ r.name.length ≤ NB) row_cells (one_field h1 (by kernel_rfl) rfl) r1
    subst e0 e1 e2
    exact ⟨⟨s0, ra, rn, rc', l, k2⟩, rfl, ⟨hR, hn, fun r hr => (hp r hr).1⟩, n0, fun r hr => (hp r hr).2⟩
/-- What holds of an argument's level. -/
def LevGot (w : World) (l : LevR) : Prop := l.In w ∧ l.an ≤ l.ac ∧ l.sn ≤ 1000000000000000 ∧ l.pn ≤ 1000000000000000 ∧ l.dn ≤ 1000000000000000 ∧ l.an ≤ 1000000000000000
theorem lev_cells (fuel : Nat) (cs : List Value) (x : DataW H × List MemPlace) (h : DataW.trod enc Try.prog w base (fun _ => true) held fuel 43 cs = some x) (hw : Room Try.prog 43 x.1) :
    ∃ l : LevR, cs = LevE.cells l ∧ LevGot w l ∧ LevNm l := by
  obtain ⟨hl, n, hf⟩ := fields_room Try.underlying43 h hw
  rw [show Try.prog.cellsOf 43 = 8 from by kernel_rfl] at hl
  match cs, hl with
  | [c0, c1, c2, c3, c4, c5, c6, c7], _ =>
    obtain ⟨y0, h0, r0⟩ := hf 0 _ rfl
    obtain ⟨y1, h1, _⟩ := hf 1 _ rfl
    obtain ⟨y2, h2, r2⟩ := hf 2 _ rfl
    obtain ⟨y3, h3, r3⟩ := hf 3 _ rfl
    obtain ⟨y4, h4, r4⟩ := hf 4 _ rfl
    obtain ⟨y5, h5, r5⟩ := hf 5 _ rfl
    obtain ⟨y6, h6, r6⟩ := hf 6 _ rfl
    obtain ⟨y7, h7, _⟩ := hf 7 _ rfl
    obtain ⟨s0, e0, n0⟩ := str_room h0 r0 (by kernel_rfl) (by kernel_rfl) rfl
    obtain ⟨k1, e1, _⟩ := int_field h1 (by kernel_rfl) (by kernel_rfl) rfl
    obtain ⟨k7, e7, _⟩ := int_field h7 (by kernel_rfl) (by kernel_rfl) rfl
    obtain ⟨a2, n2, q2, l2, e2, m2, _, _, R2, _, P2⟩ := recs_room BlkE (bytes := 48) Try.underlying38 (by kernel_rfl) (by kernel_rfl) (fun b => b.In w ∧ BlkNm b) blk_cells (one_field h2 (by kernel_rfl) rfl) r2
    obtain ⟨a3, n3, q3, l3, e3, m3, z3, ac3, R3, _, P3⟩ := recs_room AreaE (bytes := 64) Try.underlying39 (by kernel_rfl) (by kernel_rfl) (fun a => a.name.length ≤ NB) area_cells (one_field h3 (by kernel_rfl) rfl) r3
    obtain ⟨a4, n4, q4, l4, e4, m4, z4, _, R4, c4', _⟩ := recs_room BoxE (bytes := 32) Try.underlying40 (by kernel_rfl) (by kernel_rfl) (fun _ => True) box_cells (one_field h4 (by kernel_rfl) rfl) r4
    obtain ⟨a5, n5, q5, l5, e5, m5, z5, _, R5, c5', _⟩ := recs_room BoxE (bytes := 32) Try.underlying40 (by kernel_rfl) (by kernel_rfl) (fun _ => True) box_cells (one_field h5 (by kernel_rfl) rfl) r5
    obtain ⟨a6, n6, q6, l6, e6, m6, z6, _, R6, c6', _⟩ := recs_room PntE (bytes := 16) Try.underlying41 (by kernel_rfl) (by kernel_rfl) (fun _ => True) pnt_cells (one_field h6 (by kernel_rfl) rfl) r6
    subst e0 e1 e2 e3 e4 e5 e6 e7
    exact ⟨⟨s0, k1, a2, n2, q2, l2, a3, n3, q3, l3, a4, n4, q4, l4, a5, n5, q5, l5, a6, n6, q6, l6, k7⟩, rfl, ⟨⟨R2, m2, fun b hb => (P2 b hb).1, R3, m3, R4, m4, R5, m5, R6, m6, c4', c5', c6'⟩, ac3, by show n4 ≤ _; omega, by show n5 ≤ _; omega, by show n6 ≤ _; omega, by show n3 ≤ _; omega⟩, n0, fun b hb => (P2 b hb).2, P3⟩

/-- What holds of an argument's hall. -/
structure HallGot (w : World) (h : HallR) : Prop where
  hin : h.In w
  ac : ∀ l ∈ h.levels, l.an ≤ l.ac
  reach : Reach h
  lc : h.ln ≤ h.lc
  nm : ∀ l ∈ h.levels, LevNm l
theorem hall_cells (fuel : Nat) (cs : List Value) (x : DataW H × List MemPlace) (h : DataW.trod enc Try.prog w base (fun _ => true) held fuel 26 cs = some x) (hw : Room Try.prog 26 x.1) :
    ∃ q : HallR, cs = [.string (bs q.name), .int .i64 q.stage.x, .int .i64 q.stage.y, .slice q.la q.ln q.lc] ∧ HallGot w q := by
  obtain ⟨hl, n, hf⟩ := fields_room Try.underlying26 h hw
  rw [show Try.prog.cellsOf 26 = 4 from by kernel_rfl] at hl
  match cs, hl with
  | [c0, c1, c2, c3], _ =>
    obtain ⟨y0, h0, _⟩ := hf 0 _ rfl
    obtain ⟨y1, h1, r1⟩ := hf 1 _ rfl
    obtain ⟨y2, h2, r2⟩ := hf 2 _ rfl
    obtain ⟨s0, e0⟩ := str_field h0 (by kernel_rfl) (by kernel_rfl) rfl
    obtain ⟨pt, e1, _⟩ := pnt_cells _ _ _ h1 r1
    obtain ⟨b0, b1⟩ := pt
    have e1' : [c1, c2] = [.int .i64 b0, .int .i64 b1] := sub_field (ty := 23) (k := 2) (o := 1) (cs := [c0, c1, c2, c3]) e1 (by kernel_rfl)
    simp only [List.cons.injEq, and_true] at e1'
    obtain ⟨q1, q2⟩ := e1'
    obtain ⟨a3, n3, q3, l3, e3, m3, _, z3, R3, _, P3⟩ := recs_room LevE (bytes := 152) Try.underlying24 (by kernel_rfl) (by kernel_rfl) (fun l => LevGot w l ∧ LevNm l) lev_cells (one_field h2 (by kernel_rfl) rfl) r2
    subst e0 q1 q2 e3
    exact ⟨⟨s0, ⟨b0, b1⟩, a3, n3, q3, l3⟩, rfl, ⟨R3, m3, fun l hl => (P3 l hl).1.1⟩, fun l hl => (P3 l hl).1.2.1, fun l hl => (P3 l hl).1.2.2, z3, fun l hl => (P3 l hl).2⟩


theorem hall_arg {r : Go.Reach} {b0 : Nat} {v : Value} {d : DataW H} {p : List MemPlace} (hv : Value.okWide Try.prog w r b0 26 v)
    (h : DataW.Trod enc Try.prog w base (fun _ => true) held 26 v d p) {ts : List TypeId} {ds : List (DataW H)} (hw : (DataW.weightsEach Try.prog ts ds).all (· ≤ reachBytes) = true) {j : Nat} (ht : ts[j]? = some 26) (hd : ds[j]? = some d) :
    ∃ q : HallR, v = .agg #[.string (bs q.name), .int .i64 q.stage.x, .int .i64 q.stage.y, .slice q.la q.ln q.lc] ∧ HallGot w q := by
  obtain ⟨cs, rfl, hsz⟩ := okWide_struct Try.underlying26 hv
  obtain ⟨fuel, hf⟩ := h
  obtain ⟨q, hc, hg⟩ := hall_cells _ _ _ hf (fun n hn => by
    have := List.all_eq_true.1 hw n (DataW.weights_mem_each ht hd n hn)
    simpa using this)
  refine ⟨q, ?_, hg⟩
  obtain ⟨l⟩ := cs
  have : l = [.string (bs q.name), .int .i64 q.stage.x, .int .i64 q.stage.y, .slice q.la q.ln q.lc] := by simpa [Value.cells] using hc
  subst this
  rfl
end
end Go.Proofs.Ytmcdhggnpfhlmaa

namespace Go.Proofs.Ytmcdhggnpfhlmaa
open Go.RowKit Go.IntWalk
set_option linter.unusedSimpArgs false
set_option linter.unusedVariables false

theorem build_len {h : HallR} : (buildS h).1.length ≤ 4000 := by
  unfold buildS
  by_cases hf : faultsS h = []
  · rw [if_pos hf]
    have hs : singleS h = [] := by
      apply Classical.byContradiction
      intro hn
      unfold faultsS at hf
      rw [if_pos hn] at hf
      exact hn hf
    have hc : ¬ 4000 < countS h := fun hc => by
      unfold faultsS at hf
      rw [if_neg (fun e => e hs)] at hf
      by_cases hst : ¬ (coordB h.stage.x && coordB h.stage.y) = true
      · rw [if_pos hst] at hf
        cases hf
      · rw [if_neg hst, if_pos hc] at hf
        cases hf
    have := places_len (noSingle hs)
    show (placesS h).length ≤ 4000
    omega
  · rw [if_neg hf]
    exact Nat.zero_le _
end Go.Proofs.Ytmcdhggnpfhlmaa
