/- More readers of arguments: a level, a list of bools, a point, a text, numbers. -/
import Derived.Test.YtmcdhggnpfhlmaaQHCB38
import Derived.Test.YtmcdhggnpfhlmaaQHGA01

namespace Go.Proofs.Ytmcdhggnpfhlmaa
open Go.ChangeShapes Go.WideShapes Go.ChangeAt Go.RowKit Go.Deep Go.Joins Go.IntWalk
set_option linter.unusedSimpArgs false
set_option linter.unusedVariables false

def BoolE : Enc Bool 1 := ⟨fun x => [.bool x], fun _ => rfl, fun x v hv => by
  simp only [List.mem_cons, List.not_mem_nil, or_false] at hv
  subst hv; rfl, by decide⟩
theorem bool_at {w : World} {ra : Option Addr} {n : Nat} {l : List Bool} (h : Recs BoolE w ra n l) (i : Nat) (hi : i < n) : ∃ b o, ra = some ⟨b, o, none⟩ ∧ w.cell? ⟨b, o + i, none⟩ = some (.bool (bx l i)) := by
  obtain ⟨b, o, e, c⟩ := h.2 i hi
  have hl := h.1
  have hiE : i < l.length := by omega
  have c0 := c 0 (by omega)
  rw [rc_eq _ _ hiE, Nat.mul_one] at c0
  have c1 : w.cell? ⟨b, o + i, none⟩ = some (.bool l[i]) := c0
  refine ⟨b, o, e, ?_⟩
  unfold bx
  simpa [hiE] using c1

section
variable {H : Type} {enc : TypeId × Value → H} {w : World} {base : Nat} {held : Bool}
theorem bool_cells (fuel : Nat) (cs : List Value) (x : DataW H × List MemPlace) (h : DataW.trod enc Try.prog w base (fun _ => true) held fuel 4 cs = some x) (hw : Room Try.prog 4 x.1) :
    ∃ b : Bool, cs = BoolE.cells b ∧ True := by
  obtain ⟨b, e, _⟩ := DataW.trod_bool Try.underlying4 h
  exact ⟨b, e, trivial⟩

theorem room_of {v : Value} {t : TypeId} {d : DataW H} {p : List MemPlace} (h : DataW.Trod enc Try.prog w base (fun _ => true) held t v d p) {ts : List TypeId} {ds : List (DataW H)} (hw : (DataW.weightsEach Try.prog ts ds).all (· ≤ reachBytes) = true) {j : Nat} (ht : ts[j]? = some t) (hd : ds[j]? = some d) :
    ∃ fuel, DataW.trod enc Try.prog w base (fun _ => true) held fuel t v.cells.toList = some (d, p) ∧ Room Try.prog t d := by
  obtain ⟨fuel, hf⟩ := h
  exact ⟨fuel, hf, fun n hn => by
    have := List.all_eq_true.1 hw n (DataW.weights_mem_each ht hd n hn)
    simpa using this⟩
set_option maxRecDepth 100000
theorem level_arg {r : Go.Reach} {b0 : Nat} {v : Value} {d : DataW H} {p : List MemPlace} (hv : Value.okWide Try.prog w r b0 43 v)
    (h : DataW.Trod enc Try.prog w base (fun _ => true) held 43 v d p) {ts : List TypeId} {ds : List (DataW H)} (hw : (DataW.weightsEach Try.prog ts ds).all (· ≤ reachBytes) = true) {j : Nat} (ht : ts[j]? = some 43) (hd : ds[j]? = some d) :
    ∃ l : LevR, v = .agg #[.string (bs l.name), .int .i64 l.height, .slice l.ba l.bn l.bc, .slice l.aa l.an l.ac, .slice l.sa l.sn l.sc, .slice l.pa l.pn l.pc, .slice l.da l.dn l.dc, .int .i64 l.at'] ∧ LevGot w l := by
  obtain ⟨cs, rfl, hsz⟩ := okWide_struct Try.underlying43 hv
  obtain ⟨fuel, hf, hr⟩ := room_of h hw ht hd
  obtain ⟨q, hc, hg, _⟩ := lev_cells _ _ _ hf hr
  refine ⟨q, ?_, hg⟩
  obtain ⟨l⟩ := cs
  have : l = LevE.cells q := by simpa [Value.cells] using hc
  subst this
  rfl
theorem bools_arg {r : Go.Reach} {b0 : Nat} {v : Value} {d : DataW H} {p : List MemPlace} (hv : Value.okWide Try.prog w r b0 49 v)
    (h : DataW.Trod enc Try.prog w base (fun _ => true) held 49 v d p) {ts : List TypeId} {ds : List (DataW H)} (hw : (DataW.weightsEach Try.prog ts ds).all (· ≤ reachBytes) = true) {j : Nat} (ht : ts[j]? = some 49) (hd : ds[j]? = some d) :
    ∃ (ra : Option Addr) (n c : Nat) (l : List Bool), v = .slice ra n c ∧ Recs BoolE w ra n l ∧ n ≤ 9223372036854775807 := by
  obtain ⟨a, len, cap, rfl⟩ := okWide_slice Try.underlying49 hv
  obtain ⟨fuel, hf, hr⟩ := room_of h hw ht hd
  obtain ⟨ra, n, c, l, e, h1, _, _, h2, _⟩ := recs_room BoolE (bytes := 1) Try.underlying49 (by kernel_rfl) (by kernel_rfl) (fun _ => True) bool_cells hf hr
  exact ⟨ra, n, c, l, e, h2, h1⟩
theorem point_arg {r : Go.Reach} {b0 : Nat} {v : Value} {d : DataW H} {p : List MemPlace} (hv : Value.okWide Try.prog w r b0 23 v)
    (h : DataW.Trod enc Try.prog w base (fun _ => true) held 23 v d p) {ts : List TypeId} {ds : List (DataW H)} (hw : (DataW.weightsEach Try.prog ts ds).all (· ≤ reachBytes) = true) {j : Nat} (ht : ts[j]? = some 23) (hd : ds[j]? = some d) :
    ∃ q : PntR, v = .agg #[.int .i64 q.x, .int .i64 q.y] ∧ True := by
  obtain ⟨cs, rfl, hsz⟩ := okWide_struct Try.underlying23 hv
  obtain ⟨fuel, hf, hr⟩ := room_of h hw ht hd
  obtain ⟨q, hc, hg⟩ := pnt_cells _ _ _ hf hr
  refine ⟨q, ?_, hg⟩
  obtain ⟨l⟩ := cs
  have : l = PntE.cells q := by simpa [Value.cells] using hc
  subst this
  rfl
theorem int_arg {r : Go.Reach} {b0 : Nat} {v : Value} {d : DataW H} {p : List MemPlace} (hv : Value.okWide Try.prog w r b0 3 v)
    (h : DataW.Trod enc Try.prog w base (fun _ => true) held 3 v d p) : ∃ n : Int, v = .int .i64 n ∧ (Lit.int .i64 n).wf = true := by
  obtain ⟨n, rfl⟩ := okWide_int Try.underlying3 hv
  obtain ⟨m, hm⟩ := h
  obtain ⟨n', e, _, hw⟩ := DataW.trod_int Try.underlying3 hm
  simp [Value.cells] at e
  subst e
  exact ⟨_, rfl, hw⟩
theorem byte_arg {r : Go.Reach} {b0 : Nat} {v : Value} {d : DataW H} {p : List MemPlace} (hv : Value.okWide Try.prog w r b0 5 v)
    (h : DataW.Trod enc Try.prog w base (fun _ => true) held 5 v d p) : ∃ n : Nat, v = .int .u8 n ∧ n < 256 := by
  obtain ⟨n, rfl⟩ := okWide_int Try.underlying5 hv
  obtain ⟨m, hm⟩ := h
  obtain ⟨n', e, _, hw⟩ := DataW.trod_int Try.underlying5 hm
  simp [Value.cells] at e
  subst e
  simp only [Lit.wf, Bool.and_eq_true, decide_eq_true_eq] at hw
  have h1 : IntKind.u8.min ≤ n := hw.1
  have h2 : n ≤ IntKind.u8.max := hw.2
  rw [show IntKind.u8.min = 0 from by decide +kernel] at h1
  rw [show IntKind.u8.max = 255 from by decide +kernel] at h2
  exact ⟨n.toNat, by rw [Int.toNat_of_nonneg h1], by omega⟩
theorem word_arg {r : Go.Reach} {b0 : Nat} {v : Value} {d : DataW H} {p : List MemPlace} (hv : Value.okWide Try.prog w r b0 66 v)
    (h : DataW.Trod enc Try.prog w base (fun _ => true) held 66 v d p) : ∃ n : Nat, v = .int .u16 n ∧ n < 65536 := by
  obtain ⟨n, rfl⟩ := okWide_int Try.underlying66 hv
  obtain ⟨m, hm⟩ := h
  obtain ⟨n', e, _, hw⟩ := DataW.trod_int Try.underlying66 hm
  simp [Value.cells] at e
  subst e
  simp only [Lit.wf, Bool.and_eq_true, decide_eq_true_eq] at hw
  have h1 : IntKind.u16.min ≤ n := hw.1
  have h2 : n ≤ IntKind.u16.max := hw.2
  rw [show IntKind.u16.min = 0 from by decide +kernel] at h1
  rw [show IntKind.u16.max = 65535 from by decide +kernel] at h2
  exact ⟨n.toNat, by rw [Int.toNat_of_nonneg h1], by omega⟩
theorem str_arg {r : Go.Reach} {b0 : Nat} {v : Value} {d : DataW H} {p : List MemPlace} (hv : Value.okWide Try.prog w r b0 9 v)
    (h : DataW.Trod enc Try.prog w base (fun _ => true) held 9 v d p) : ∃ s : List UInt8, v = .string (bs s) ∧ s.length ≤ 9223372036854775807 := by
  obtain ⟨s, rfl⟩ := okWide_string Try.underlying9 hv
  obtain ⟨m, hm⟩ := h
  obtain ⟨t, e, _, ht⟩ := DataW.trod_string Try.underlying9 hm
  simp [Value.cells] at e
  subst e
  exact ⟨s.data.toList, by rw [← bs_of], by unfold maxLen at ht; simpa using ht⟩
end
end Go.Proofs.Ytmcdhggnpfhlmaa
