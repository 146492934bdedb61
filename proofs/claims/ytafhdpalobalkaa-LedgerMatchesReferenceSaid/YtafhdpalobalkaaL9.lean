/- ledger: the map of numbers; the first three checks of Book: the walks. -/
import Derived.Deep.QuietTactic
import Derived.BigQuiet
import Derived.Test.YtafhdpalobalkaaL8
namespace Go.Proofs.Ytafhdpalobalkaa
open Go.RowKit Go.IntWalk Go.Maps Go.ChangeMaps

/-- Whether a booking with the number is there. -/
def hasId (Bs : List BookT) (id : Int) : Bool := Bs.any fun b => decide (b.1 = id)

theorem hasId_snoc (Bs : List BookT) (b : BookT) (id : Int) : hasId (Bs ++ [b]) id = (hasId Bs id || decide (b.1 = id)) := by simp [hasId]

/-- The datum of a map holds the numbers of the bookings. -/
structure IdsD (D : DataW Unit) (Bs : List BookT) : Prop where
  isMap : IsMap D
  val : ∀ id : Int, D.atKey (.int .i64 id) (.lit (.bool false)) = .lit (.bool (hasId Bs id))

theorem ids_empty : IdsD (.map []) [] := ⟨isMap_empty, fun id => by simp [DataW.atKey, hasId]⟩

theorem IdsD.put {D : DataW Unit} {Bs : List BookT} (h : IdsD D Bs) (b : BookT) : IdsD (D.put (.int .i64 b.1) (.lit (.bool true))) (Bs ++ [b]) := by
  refine ⟨h.isMap.put _ _, fun id => ?_⟩
  rw [hasId_snoc]
  by_cases e : b.1 = id
  · subst e
    rw [atKey_put_same h.isMap (by trivial)]
    simp
  · rw [atKey_put_other (fun e2 => e (by cases e2; rfl)), h.val]
    simp [e]

def IdsM (w : World) (I N : Nat) (Bs : List BookT) : Prop :=
  ∃ D : DataW Unit, w.ownsMap Try.prog 3 (plainElem Try.prog 4) I N D ∧ IdsD D Bs

theorem IdsM.lt {w : World} {M N : Nat} {f : List BookT} (h : IdsM w M N f) : M < w.heap.size := let ⟨_, h, _⟩ := h; h.lt
theorem IdsM.of_heap {w w' : World} {M N : Nat} {f : List BookT} (h : IdsM w M N f) (e : w'.heap[M]? = w.heap[M]?) : IdsM w' M N f := let ⟨D, h, h2⟩ := h; ⟨D, owns_of_heap h e, h2⟩
theorem IdsM.block {w : World} {M N : Nat} {f : List BookT} (h : IdsM w M N f) : ∃ o, w.heap[M]? = some o := let ⟨_, ⟨_, _, hb, _⟩, _⟩ := h; ⟨_, hb⟩

theorem zeroB (w : World) : (zeroValue 4).run Try.prog w = .ok (.bool false) w := by kernel_rfl

theorem plainElem_bool_inv {H : Type} {P : Program} {e : TypeId} (he : P.underlying e = some .bool) {v : Value} {b : Bool} {ps : List MemPlace} (h : plainElem (H := H) P e v = some (.lit (.bool b), ps)) : v = .bool b := by
  unfold plainElem at h
  rw [he] at h
  cases v <;> simp at h
  rw [h.1]

theorem IdsM.look {w : World} {I N : Nat} {Bs : List BookT} (h : IdsM w I N Bs) (id : Int) (hid : (Lit.int .i64 id).wf = true) :
    (Instr.lookup 53 (.map (some I)) (.int .i64 id) false).run Try.prog w = .ok (.bool (hasId Bs id)) w := by
  obtain ⟨D, h, h2⟩ := h
  obtain ⟨v, ps, hrun, hv⟩ := h.lookup lawI Try.underlying53 (zeroB w) (plainElem_bool Try.underlying4 false) (keyOf_int_mk Try.underlying3 hid)
  rw [h2.val] at hv
  rw [hrun, plainElem_bool_inv Try.underlying4 hv]

/-- 'ids[id] = true'. -/
theorem IdsM.entry {w : World} {I N : Nat} {Bs : List BookT} (h : IdsM w I N Bs) (b : BookT) (hid : (Lit.int .i64 b.1).wf = true) (hN : N < maxLen) :
    ∃ (v0 : Value) (st : Nat) (X Y : Obj), (Instr.mapEntry 53 (.map (some I)) (.int .i64 b.1)).run Try.prog w = .ok (.tuple #[v0, goInt st]) (setBlock w I X) ∧
      (∀ w2 : World, w2.heap[I]? = some X → (Instr.entryStore 53 (.map (some I)) (goInt st) (.bool true)).run Try.prog w2 = .ok () (setBlock w2 I Y)) ∧ IdsM (setBlock w I Y) I (N + 1) (Bs ++ [b]) := by
  obtain ⟨D, h, h2⟩ := h
  obtain ⟨v0, st, X, e1, e2, _⟩ := own_entry h lawI Try.underlying53 zeroB hN (keyOf_int_mk Try.underlying3 hid)
  obtain ⟨Y, y1, y2⟩ := e2 (.bool true) _ [] (plainElem_bool Try.underlying4 true)
  exact ⟨v0, st, X, Y, e1, y1, _, y2, h2.put b⟩

/-! ### The checks -/
def formE (b : BookT) : Int := isE (!formedS b) 1
def zeroE (l : List PostT) : Int := isE (totW l l.length != 0) 19
def twiceE (Bs : List BookT) (id : Int) : Int := isE (hasId Bs id) 9

theorem book1_any (lb bb g : Nat) (id : Int) (ra : Option Addr) (n c : Nat) (l : List PostT) (w : World) (hlb : w.heap[lb]? = some (.cells #[.pointer (some ⟨g, 0, none⟩)] 26 (0, 0)))
    (hbb : w.heap[bb]? = some (.cells #[.int .i64 id, .slice ra n c] 34 (0, 0))) (hn : n ≤ 9223372036854775807) (hP : Posts w ra n l) (hl : ∀ i, i < n → (pn l i).length ≤ 9223372036854775807) :
    Calls Try.prog 28 #[.pointer (some ⟨lb, 0, none⟩), .pointer (some ⟨bb, 0, none⟩)] w fun e w' => e = .returned (.int .i64 (formE (id, l))) ∧ Below w.heap.size w w' := by
  have x0 := box_cell hlb
  have z0 : w.cell? ⟨bb, 0, none⟩ = some (.int .i64 id) := by rw [cell_of_row _ _ _ _ _ _ hbb]; rfl
  have z1 : w.cell? ⟨bb, 1, none⟩ = some (.slice ra n c) := by rw [cell_of_row _ _ _ _ _ _ hbb]; rfl
  have HC := Lib.hid (formed_any id ra n c l w hn hP hl)
  have HE : Hid (formE (id, l) = isE (!formedS (id, l)) 1) := rfl
  clear hlb hbb hP hl
  go_enter Try.func28, Try.ntmps28
  go_wp2_with fail
  refine HC.out.mono ?_
  rintro e w1 ⟨rfl, hb⟩
  have HB := Lib.hid hb
  clear hb x0 z0 z1
  generalize formedS (id, l) = q at *
  go_wp2_with fail
  refine (is_any _ _ w1).mono ?_
  rintro e w2 ⟨rfl, rfl⟩
  go_wp2_with fail
  go_ret
  exact ⟨by rw [HE.out]; rfl, HB.out⟩

set_option maxRecDepth 10000 in
theorem book2_any (bb : Nat) (id : Int) (ra : Option Addr) (n c : Nat) (l : List PostT) (w : World) (hbb : w.heap[bb]? = some (.cells #[.int .i64 id, .slice ra n c] 34 (0, 0))) (hn : n ≤ 9223372036854775807) (hP : Posts w ra n l) :
    Calls Try.prog 31 #[.pointer (some ⟨bb, 0, none⟩)] w fun e w' => e = .returned (.int .i64 (zeroE l)) ∧ Below w.heap.size w w' := by
  have z1 : w.cell? ⟨bb, 1, none⟩ = some (.slice ra n c) := by rw [cell_of_row _ _ _ _ _ _ hbb]; rfl
  have HP := Lib.hid hP
  have HE : Hid (zeroE l = isE (totW l n != 0) 19) := by show _ = _; unfold zeroE; rw [hP.1]
  clear hbb hP
  go_enter Try.func31, Try.ntmps31
  go_wp2_with fail
  go_loopw [2, 8] (fun v2 v8 wr => ∃ i : Nat, v2 = .int .i64 (totW l i) ∧ v8 = .int .i64 i ∧ i ≤ n ∧ Hid (Below w.heap.size w wr)) (fun _ v8 _ => n - (intOf v8).toNat)
  case atStart => exact ⟨0, rfl, rfl, Nat.zero_le _, Below.refl _ _⟩
  case round =>
    clear z1
    obtain ⟨i, rfl, rfl, hi, HW⟩ := hrel
    by_cases hlt : i < n
    · obtain ⟨b, o, rfl, c0, c1, c2⟩ := Posts.at (HP.out.below HW.out) i hlt
      have HT : Hid (totW l (i + 1) = IntKind.i64.wrap (totW l i + pa l i)) := rfl
      go_upto_region 5 with fail
      have HW2 := Lib.hid (HW.out.trans ((Joins.below_alloc1 wr (.cells #[.int .i64 (pk l i), .string (bs (pn l i)), .int .i64 (pa l i)] 44)).mono HW.out.size))
      have HY : Hid (Boxed3 (wr.alloc (.cells #[.int .i64 (pk l i), .string (bs (pn l i)), .int .i64 (pa l i)] 44)) wr.heap.size (.int .i64 (pk l i)) (.string (bs (pn l i))) (.int .i64 (pa l i)) 44) := World.alloc_heap_new wr _
      generalize wr.alloc (.cells #[.int .i64 (pk l i), .string (bs (pn l i)), .int .i64 (pa l i)] 44) = w3 at *
      clear c0 c1 c2
      have y2 := HY.out.c2
      go_wp2_with fail
      go_roundw
      case rel => exact ⟨i + 1, by rw [HT.out]; first | rfl | (rw [i64_left]), by go_num, hlt, HW2⟩
      case measure => simp [intOf]; omega
    · have hi' : i = n := by omega
      subst hi'
      obtain ⟨s, hs⟩ : ∃ s, totW l i = s := ⟨_, rfl⟩
      rw [hs] at HE ⊢
      clear hs
      go_wp2_with fail
      refine (is_any _ _ wr).mono ?_
      rintro e w2 ⟨rfl, rfl⟩
      go_wp2_with fail
      go_ret
      exact ⟨by rw [HE.out]; rfl, HW.out⟩

set_option maxRecDepth 10000 in
theorem book3_any (lb bb g I N : Nat) (id : Int) (ra : Option Addr) (n c : Nat) (Bs : List BookT) (w : World) (hlb : w.heap[lb]? = some (.cells #[.pointer (some ⟨g, 0, none⟩)] 26 (0, 0)))
    (hbb : w.heap[bb]? = some (.cells #[.int .i64 id, .slice ra n c] 34 (0, 0))) (hg : w.cell? ⟨g, 2, none⟩ = some (.map (some I))) (hI : IdsM w I N Bs) (hid : (Lit.int .i64 id).wf = true) :
    Calls Try.prog 32 #[.pointer (some ⟨lb, 0, none⟩), .pointer (some ⟨bb, 0, none⟩)] w fun e w' => e = .returned (.int .i64 (twiceE Bs id)) ∧ Below w.heap.size w w' := by
  have x0 := box_cell hlb
  have z0 : w.cell? ⟨bb, 0, none⟩ = some (.int .i64 id) := by rw [cell_of_row _ _ _ _ _ _ hbb]; rfl
  have HLK : Hid (∀ q, (Instr.lookup 53 (.map (some I)) (.int .i64 id) false).run Try.prog (w.drewN q) = .ok (.bool (hasId Bs id)) (w.drewN q)) := fun q => IdsM.look (w := w.drewN q) (hI.of_heap rfl) id hid
  have HE : Hid (twiceE Bs id = isE (hasId Bs id) 9) := rfl
  have hlk := HLK.out
  clear hlb hbb hI
  generalize hasId Bs id = h at *
  go_enter Try.func32, Try.ntmps32
  go_wp2_with fail
  go_quiet (exact Calls.quiet_of_same ((is_any _ _ _).mono fun e w' ⟨h1, h2⟩ => ⟨h1, h2.symm⟩))
  go_wp2_with fail
  go_ret
  exact ⟨by rw [HE.out]; rfl, below_drewN (Below.refl _ _) nq⟩
end Go.Proofs.Ytafhdpalobalkaa
