/- What an argument's reading gives the walks of merges: scans, owners' titles, steps, numbers. -/
import Derived.Test.YtpmoelkblngamaaQMMR22
import Derived.Test.YtpmoelkblngamaaQMMR27
import Derived.Test.YtpmoelkblngamaaRows
import Derived.ProofKit
import Derived.OpenShut
import Derived.ChangeOld
import Derived.Below
import Derived.Deep.SlicePairs
import Derived.Deep.Slices
import Derived.Lib.SmallJoins
import Derived.ChangeMaps5

namespace Go.Proofs.Ytpmoelkblngamaa
open Go.ChangeShapes Go.WideShapes Go.ChangeAt Go.RowKit Go.Deep Go.Joins Go.IntWalk

section
variable {H : Type} {enc : TypeId × Value → H} {w : World} {base : Nat} {held : Bool}

theorem add_whole (b o k : Nat) : (⟨b, o, none⟩ : Addr).add k = ⟨b, o + k, none⟩ := by
  unfold Addr.add; split
  · subst_vars; rfl
  · rfl

theorem whole_of {b o : Nat} {s} {v : Value} (h : w.cell? ((Addr.mk b o s).add 0) = some v) : s = none := by
  simpa [Addr.add] using World.cell?_spot h

theorem recs_read {α : Type} {k : Nat} [Inhabited α] (E : Enc α k) {ts te : TypeId} (ht : Try.prog.underlying ts = some (.slice te)) (hk : Try.prog.cellsOf te = k) (p : α → Prop)
    (hcell : ∀ (fuel : Nat) (cs : List Value) (x : DataW H × List MemPlace), DataW.trod enc Try.prog w base (fun _ => true) held fuel te cs = some x → ∃ a, cs = E.cells a ∧ p a)
    {fuel : Nat} {v : Value} {x : DataW H × List MemPlace} (h : DataW.trod enc Try.prog w base (fun _ => true) held fuel ts [v] = some x) :
    ∃ (ra : Option Addr) (n c : Nat) (l : List α), v = .slice ra n c ∧ n ≤ 9223372036854775807 ∧ Recs E w ra n l ∧ (ra = none → c = 0) ∧ ∀ a ∈ l, p a := by
  rcases open_slice ht h with ⟨hcs, _⟩ | ⟨a, len, cap, m, fu, D, P0, hcs, _, hl, hm, hmm, _, hx⟩
  · simp at hcs
    subst hcs
    exact ⟨none, 0, 0, [], rfl, by omega, Recs.none _, fun _ => rfl, fun i hi => by cases hi⟩
  · simp at hcs
    subst hcs
    simp only [if_true] at hmm
    subst hmm
    obtain ⟨b, o, s⟩ := a
    unfold maxLen at hm
    rw [hk] at hx
    obtain ⟨F, hF⟩ := choose_lt (α := α) (p := fun i q => w.cells? base ((Addr.mk b o s).add (i * k)) k = some (E.cells q) ∧ p q) (n := len) (fun i hi => by
      obtain ⟨cs', h1, h2⟩ := hx i (by omega)
      obtain ⟨q, rfl, h3⟩ := hcell _ _ _ h2
      exact ⟨q, h1, h3⟩)
    have hlen : ((List.range len).map F).length = len := by simp
    have hget : ∀ i (hi : i < len), ((List.range len).map F)[i]'(by rw [hlen]; exact hi) = F i := fun i hi => by simp
    refine ⟨some ⟨b, o, s⟩, len, m, (List.range len).map F, rfl, by omega, ⟨hlen, fun i hi => ?_⟩, (fun e => by cases e), fun q hq => ?_⟩
    · have hs : s = none := by
        obtain ⟨_, _, hc⟩ := World.cells?_some (hF 0 (by omega)).1
        have := hc 0 (by have := E.pos; omega)
        have h0 : 0 < (E.cells (F 0)).length := by rw [E.len]; exact E.pos
        rw [add_add, List.getElem?_eq_getElem h0, Nat.zero_mul, Nat.add_zero] at this
        exact whole_of this
      subst hs
      refine ⟨b, o, rfl, fun j hj => ?_⟩
      obtain ⟨_, _, hc⟩ := World.cells?_some (hF i hi).1
      have := hc j hj
      have hj' : j < (E.cells (F i)).length := by rw [E.len]; exact hj
      rw [add_add, add_whole, List.getElem?_eq_getElem hj'] at this
      rw [Nat.add_assoc, this, rc_eq _ _ (by rw [hlen]; exact hi), hget i hi, List.getD_eq_getElem?_getD, List.getElem?_eq_getElem hj']
      rfl
    · obtain ⟨i, hi, rfl⟩ := List.mem_map.mp hq
      exact (hF i (List.mem_range.mp hi)).2

theorem trod_struct6 {P : Program} {spare : Nat → Bool} {t : TypeId} {f0 f1 f2 f3 f4 f5 : Field} {fuel : Nat} {cs : List Value} {x : DataW H × List MemPlace} (ht : P.underlying t = some (.struct #[f0, f1, f2, f3, f4, f5])) (h : DataW.trod enc P w base spare held fuel t cs = some x) :
    ∃ y0 y1 y2 y3 y4 y5 n, cs.length = P.cellsOf t ∧ DataW.trod enc P w base spare held n f0.type ((cs.drop f0.offset).take (P.cellsOf f0.type)) = some y0 ∧
      DataW.trod enc P w base spare held n f1.type ((cs.drop f1.offset).take (P.cellsOf f1.type)) = some y1 ∧ DataW.trod enc P w base spare held n f2.type ((cs.drop f2.offset).take (P.cellsOf f2.type)) = some y2 ∧
      DataW.trod enc P w base spare held n f3.type ((cs.drop f3.offset).take (P.cellsOf f3.type)) = some y3 ∧ DataW.trod enc P w base spare held n f4.type ((cs.drop f4.offset).take (P.cellsOf f4.type)) = some y4 ∧
      DataW.trod enc P w base spare held n f5.type ((cs.drop f5.offset).take (P.cellsOf f5.type)) = some y5 := by
  obtain ⟨xs, n, _, rfl, hl, hlen, hf⟩ := DataW.trod_struct ht h
  match xs, hlen with
  | [y0, y1, y2, y3, y4, y5], _ => exact ⟨y0, y1, y2, y3, y4, y5, n, hl, by simpa using hf 0 f0 rfl, by simpa using hf 1 f1 rfl, by simpa using hf 2 f2 rfl, by simpa using hf 3 f3 rfl, by simpa using hf 4 f4 rfl, by simpa using hf 5 f5 rfl⟩
theorem trod_struct5 {P : Program} {spare : Nat → Bool} {t : TypeId} {f0 f1 f2 f3 f4 : Field} {fuel : Nat} {cs : List Value} {x : DataW H × List MemPlace} (ht : P.underlying t = some (.struct #[f0, f1, f2, f3, f4])) (h : DataW.trod enc P w base spare held fuel t cs = some x) :
    ∃ y0 y1 y2 y3 y4 n, cs.length = P.cellsOf t ∧ DataW.trod enc P w base spare held n f0.type ((cs.drop f0.offset).take (P.cellsOf f0.type)) = some y0 ∧
      DataW.trod enc P w base spare held n f1.type ((cs.drop f1.offset).take (P.cellsOf f1.type)) = some y1 ∧ DataW.trod enc P w base spare held n f2.type ((cs.drop f2.offset).take (P.cellsOf f2.type)) = some y2 ∧
      DataW.trod enc P w base spare held n f3.type ((cs.drop f3.offset).take (P.cellsOf f3.type)) = some y3 ∧ DataW.trod enc P w base spare held n f4.type ((cs.drop f4.offset).take (P.cellsOf f4.type)) = some y4 := by
  obtain ⟨xs, n, _, rfl, hl, hlen, hf⟩ := DataW.trod_struct ht h
  match xs, hlen with
  | [y0, y1, y2, y3, y4], _ => exact ⟨y0, y1, y2, y3, y4, n, hl, by simpa using hf 0 f0 rfl, by simpa using hf 1 f1 rfl, by simpa using hf 2 f2 rfl, by simpa using hf 3 f3 rfl, by simpa using hf 4 f4 rfl⟩

theorem slice_read {ts te : TypeId} (ht : Try.prog.underlying ts = some (.slice te)) {fuel : Nat} {cs : List Value} {x : DataW H × List MemPlace} (h : DataW.trod enc Try.prog w base (fun _ => true) held fuel ts cs = some x) : ∃ (a : Option Addr) (n c : Nat), cs = [.slice a n c] := by
  rcases open_slice ht h with ⟨hcs, _⟩ | ⟨a, len, cap, _, _, _, _, hcs, _⟩
  · exact ⟨none, 0, 0, hcs⟩
  · exact ⟨some a, len, cap, hcs⟩

/-- What an argument's scan keeps. -/
def OkS (s : Scn) : Prop := s.owner.length ≤ 9223372036854775807 ∧ WfS s

set_option maxRecDepth 100000 in
theorem scan_cells (fuel : Nat) (cs : List Value) (x : DataW H × List MemPlace) (h : DataW.trod enc Try.prog w base (fun _ => true) held fuel 39 cs = some x) : ∃ s : Scn, cs = ScnE.cells s ∧ OkS s := by
  obtain ⟨y0, y1, y2, y3, y4, y5, n, hl, h0, h1, h2, h3, h4, h5⟩ := trod_struct6 Try.underlying39 h
  rw [show Try.prog.cellsOf 39 = 6 from by kernel_rfl] at hl
  match cs, hl with
  | [c0, c1, c2, c3, c4, c5], _ =>
    rw [show Try.prog.cellsOf 3 = 1 from by kernel_rfl] at h0 h1 h2 h3 h4
    rw [show Try.prog.cellsOf 9 = 1 from by kernel_rfl] at h5
    obtain ⟨k0, e0, _, w0⟩ := DataW.trod_int Try.underlying3 h0
    obtain ⟨k1, e1, _, w1⟩ := DataW.trod_int Try.underlying3 h1
    obtain ⟨k2, e2, _, w2⟩ := DataW.trod_int Try.underlying3 h2
    obtain ⟨k3, e3, _, w3⟩ := DataW.trod_int Try.underlying3 h3
    obtain ⟨k4, e4, _, w4⟩ := DataW.trod_int Try.underlying3 h4
    obtain ⟨t, e5, _, ht⟩ := DataW.trod_string Try.underlying9 h5
    simp at e0 e1 e2 e3 e4 e5
    subst e0 e1 e2 e3 e4 e5
    exact ⟨⟨k0, k1, k2, k3, k4, t.data.toList⟩, by rw [bs_of t]; rfl, by unfold maxLen at ht; simpa using ht, w0, w1, w2, w3, w4⟩

set_option maxRecDepth 100000 in
theorem scans_arg {r : Reach} {b0 : Nat} {v : Value} {d : DataW H} {p : List MemPlace} (hv : Value.okWide Try.prog w r b0 22 v)
    (h : DataW.Trod enc Try.prog w base (fun _ => true) held 22 v d p) :
    ∃ (ra : Option Addr) (n c : Nat) (l : List Scn), v = .slice ra n c ∧ n ≤ 9223372036854775807 ∧ Recs ScnE w ra n l ∧ (ra = none → c = 0) ∧ ∀ s ∈ l, OkS s := by
  obtain ⟨a, len, cap, rfl⟩ := okWide_slice Try.underlying22 hv
  obtain ⟨m, hm⟩ := h
  exact recs_read ScnE Try.underlying22 (by kernel_rfl) OkS scan_cells hm

set_option maxRecDepth 100000 in
theorem scan_arg {r : Reach} {b0 : Nat} {v : Value} {d : DataW H} {p : List MemPlace} (hv : Value.okWide Try.prog w r b0 39 v)
    (h : DataW.Trod enc Try.prog w base (fun _ => true) held 39 v d p) :
    ∃ s : Scn, v = .agg #[.int .i64 s.gate, .int .i64 s.number, .int .i64 s.time, .int .i64 s.serial, .int .i64 s.kind, .string (bs s.owner)] ∧ OkS s := by
  obtain ⟨cs, rfl, hsz⟩ := okWide_struct Try.underlying39 hv
  obtain ⟨fuel, hf⟩ := h
  obtain ⟨s, hc, h1⟩ := scan_cells _ _ _ hf
  refine ⟨s, ?_, h1⟩
  obtain ⟨l⟩ := cs
  have : l = ScnE.cells s := by simpa [Value.cells] using hc
  subst this
  rfl

instance : Inhabited GoR := ⟨{ serial := 0, shw := 0, place := 0, first := [], ca := none, cn := 0, cc := 0, person := [], la := none, ln := 0, lc := 0, total := 0, ma := none, mn := 0, mc := 0, gone := 0, oa := none, on := 0, oc := 0, ser := by decide }⟩

set_option maxRecDepth 100000 in
theorem gone_cells (fuel : Nat) (cs : List Value) (x : DataW H × List MemPlace) (h : DataW.trod enc Try.prog w base (fun _ => true) held fuel 60 cs = some x) : ∃ g : GoR, cs = GoE.cells g ∧ (Lit.int .i64 g.gone).wf = true := by
  obtain ⟨y0, y1, y2, y3, y4, y5, n, hl, h0, h1, h2, h3, h4, h5⟩ := trod_struct6 Try.underlying60 h
  obtain ⟨z0, z1, z2, z3, z4, m, hl0, k0, k1, k2, k3, k4⟩ := trod_struct5 Try.underlying54 h0
  obtain ⟨u0, u1, m2, _, hl2, i0, i1⟩ := trod_struct2 Try.underlying57 h2
  rw [show Try.prog.cellsOf 60 = 11 from by kernel_rfl] at hl
  match cs, hl with
  | [c0, c1, c2, c3, c4, c5, c6, c7, c8, c9, c10], _ =>
    rw [show Try.prog.cellsOf 54 = 5 from by kernel_rfl] at k0 k1 k2 k3 k4
    rw [show Try.prog.cellsOf 57 = 2 from by kernel_rfl] at i0 i1
    rw [show Try.prog.cellsOf 3 = 1 from by kernel_rfl] at k0 k1 k2 i1 h4
    rw [show Try.prog.cellsOf 9 = 1 from by kernel_rfl] at k3 h1
    rw [show Try.prog.cellsOf 52 = 1 from by kernel_rfl] at k4
    rw [show Try.prog.cellsOf 55 = 1 from by kernel_rfl] at i0
    rw [show Try.prog.cellsOf 58 = 1 from by kernel_rfl] at h3
    rw [show Try.prog.cellsOf 34 = 1 from by kernel_rfl] at h5
    obtain ⟨a0, e0, _, w0⟩ := DataW.trod_int Try.underlying3 k0
    obtain ⟨a1, e1, _, _⟩ := DataW.trod_int Try.underlying3 k1
    obtain ⟨a2, e2, _, _⟩ := DataW.trod_int Try.underlying3 k2
    obtain ⟨t3, e3, _, _⟩ := DataW.trod_string Try.underlying9 k3
    obtain ⟨p4, q4, r4, e4⟩ := slice_read Try.underlying52 k4
    obtain ⟨t5, e5, _, _⟩ := DataW.trod_string Try.underlying9 h1
    obtain ⟨p6, q6, r6, e6⟩ := slice_read Try.underlying55 i0
    obtain ⟨a7, e7, _, _⟩ := DataW.trod_int Try.underlying3 i1
    obtain ⟨p8, q8, r8, e8⟩ := slice_read Try.underlying58 h3
    obtain ⟨a9, e9, _, w9⟩ := DataW.trod_int Try.underlying3 h4
    obtain ⟨p10, q10, r10, e10⟩ := slice_read Try.underlying34 h5
    simp at e0 e1 e2 e3 e4 e5 e6 e7 e8 e9 e10
    subst e0 e1 e2 e3 e4 e5 e6 e7 e8 e9 e10
    exact ⟨⟨a0, a1, a2, t3.data.toList, p4, q4, r4, t5.data.toList, p6, q6, r6, a7, p8, q8, r8, a9, p10, q10, r10, w0⟩, by rw [bs_of t3, bs_of t5]; rfl, w9⟩

set_option maxRecDepth 100000 in
theorem gone_arg {r : Reach} {b0 : Nat} {v : Value} {d : DataW H} {p : List MemPlace} (hv : Value.okWide Try.prog w r b0 23 v)
    (h : DataW.Trod enc Try.prog w base (fun _ => true) held 23 v d p) :
    ∃ (ra : Option Addr) (n c : Nat) (l : List GoR), v = .slice ra n c ∧ n ≤ 9223372036854775807 ∧ Recs GoE w ra n l ∧ (ra = none → c = 0) ∧ ∀ g ∈ l, (Lit.int .i64 g.gone).wf = true := by
  obtain ⟨a, len, cap, rfl⟩ := okWide_slice Try.underlying23 hv
  obtain ⟨m, hm⟩ := h
  exact recs_read GoE Try.underlying23 (by kernel_rfl) _ gone_cells hm

set_option maxRecDepth 100000 in
theorem step_cells (fuel : Nat) (cs : List Value) (x : DataW H × List MemPlace) (h : DataW.trod enc Try.prog w base (fun _ => true) held fuel 44 cs = some x) : ∃ s : StepT, cs = StE.cells s ∧ (s.1 ≤ 255 ∧ s.2.1 ≤ 255 ∧ s.2.2 ≤ 255) := by
  obtain ⟨y0, y1, y2, n, _, hl, h0, h1, h2⟩ := trod_struct3 Try.underlying44 h
  rw [show Try.prog.cellsOf 44 = 3 from by kernel_rfl] at hl
  match cs, hl with
  | [c0, c1, c2], _ =>
    rw [show Try.prog.cellsOf 5 = 1 from by kernel_rfl] at h0 h1 h2
    obtain ⟨k0, e0, _, w0⟩ := DataW.trod_int Try.underlying5 h0
    obtain ⟨k1, e1, _, w1⟩ := DataW.trod_int Try.underlying5 h1
    obtain ⟨k2, e2, _, w2⟩ := DataW.trod_int Try.underlying5 h2
    simp at e0 e1 e2
    subst e0 e1 e2
    have f : ∀ {k : Int}, (Lit.int .u8 k).wf = true → 0 ≤ k ∧ k ≤ 255 := fun {k} h => by
      simp only [Lit.wf, Bool.and_eq_true, decide_eq_true_eq] at h
      have h1 : IntKind.u8.min ≤ k := h.1
      have h2 : k ≤ IntKind.u8.max := h.2
      rw [show IntKind.u8.min = 0 from by decide +kernel] at h1
      rw [show IntKind.u8.max = 255 from by decide +kernel] at h2
      exact ⟨h1, h2⟩
    obtain ⟨a0, b0⟩ := f w0
    obtain ⟨a1, b1⟩ := f w1
    obtain ⟨a2, b2⟩ := f w2
    refine ⟨(k0.toNat, k1.toNat, k2.toNat), ?_, by show k0.toNat ≤ 255; omega, by show k1.toNat ≤ 255; omega, by show k2.toNat ≤ 255; omega⟩
    show _ = [Value.int .u8 (k0.toNat : Int), .int .u8 (k1.toNat : Int), .int .u8 (k2.toNat : Int)]
    rw [Int.toNat_of_nonneg a0, Int.toNat_of_nonneg a1, Int.toNat_of_nonneg a2]

set_option maxRecDepth 100000 in
theorem steps_arg {r : Reach} {b0 : Nat} {v : Value} {d : DataW H} {p : List MemPlace} (hv : Value.okWide Try.prog w r b0 41 v)
    (h : DataW.Trod enc Try.prog w base (fun _ => true) held 41 v d p) :
    ∃ (ra : Option Addr) (n c : Nat) (l : List StepT), v = .slice ra n c ∧ n ≤ 9223372036854775807 ∧ Recs StE w ra n l ∧ (ra = none → c = 0) ∧ ∀ s ∈ l, s.1 ≤ 255 ∧ s.2.1 ≤ 255 ∧ s.2.2 ≤ 255 := by
  obtain ⟨a, len, cap, rfl⟩ := okWide_slice Try.underlying41 hv
  obtain ⟨m, hm⟩ := h
  exact recs_read StE Try.underlying41 (by kernel_rfl) _ step_cells hm

set_option maxRecDepth 100000 in
theorem int_arg {r : Reach} {b0 : Nat} {v : Value} {d : DataW H} {p : List MemPlace} (hv : Value.okWide Try.prog w r b0 3 v)
    (h : DataW.Trod enc Try.prog w base (fun _ => true) held 3 v d p) : ∃ n : Int, v = .int .i64 n ∧ (Lit.int .i64 n).wf = true := by
  obtain ⟨n, rfl⟩ := okWide_int Try.underlying3 hv
  obtain ⟨m, hm⟩ := h
  obtain ⟨n', e, _, hw⟩ := DataW.trod_int Try.underlying3 hm
  simp [Value.cells] at e
  subst e
  exact ⟨_, rfl, hw⟩

set_option maxRecDepth 100000 in
theorem byte_arg {r : Reach} {b0 : Nat} {v : Value} {d : DataW H} {p : List MemPlace} (hv : Value.okWide Try.prog w r b0 5 v)
    (h : DataW.Trod enc Try.prog w base (fun _ => true) held 5 v d p) : ∃ n : Nat, v = .int .u8 n ∧ n ≤ 255 := by
  obtain ⟨n, rfl⟩ := okWide_int Try.underlying5 hv
  obtain ⟨m, hm⟩ := h
  obtain ⟨n', e, _, hw⟩ := DataW.trod_int Try.underlying5 hm
  simp [Value.cells] at e
  subst e
  simp only [Lit.wf, Bool.and_eq_true, decide_eq_true_eq] at hw
  have h1 : IntKind.u8.min ≤ n := hw.1
  have h2 : n ≤ IntKind.u8.max := hw.2
  rw [show IntKind.u8.min = 0 from by decide +kernel] at h1
  rw [show IntKind.u8.max = 255 from by decide +kernel] at h2
  exact ⟨n.toNat, by rw [Int.toNat_of_nonneg h1], by omega⟩
end
end Go.Proofs.Ytpmoelkblngamaa
