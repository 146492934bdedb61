/- ledger: maps of balances; slices.Clone of postings; maps.Clone; ledger.New: the walks. -/
import Derived.Maps.AppendAt
import Derived.Lib.SliceRun
import Derived.Shelf.SlMaps.Clone
import Derived.Carry
import Derived.Test.YtafhdpalobalkaaL5
namespace Go.Proofs.Ytafhdpalobalkaa
open Go.RowKit Go.IntWalk Go.Maps Go.WideMaps

/-- The datum of a map holds the balances f. -/
structure BalD (D : DataW Unit) (f : AccT → Int) : Prop where
  isMap : IsMap D
  val : ∀ a, WfA a → D.atKey (keyL a) (.lit (.int .i64 0)) = .lit (.int .i64 (f a))

theorem keyL_is (a : AccT) : WideAt.IsKeyLit (keyL a) := by unfold keyL; trivial

theorem bal_empty : BalD (.map []) (fun _ => 0) := ⟨isMap_empty, fun a _ => by simp [DataW.atKey]⟩

theorem BalD.put {D : DataW Unit} {f : AccT → Int} (h : BalD D f) (p : PostT) (hp : WfA p.1) : BalD (D.put (keyL p.1) (.lit (.int .i64 (f p.1 + p.2)))) (plusF f p) := by
  refine ⟨h.isMap.put _ _, fun a ha => ?_⟩
  unfold plusF
  by_cases e : a = p.1
  · rw [if_pos e, e, atKey_put_same h.isMap (keyL_is _)]
  · rw [if_neg e, atKey_put_other (fun e2 => e (key_inj ha hp e2)), h.val a ha, Int.add_zero]

/-- Block M is a map of balances. -/
def BalM (w : World) (M N : Nat) (f : AccT → Int) : Prop :=
  ∃ D : DataW Unit, w.ownsMap Try.prog 39 (plainElem Try.prog 3) M N D ∧ BalD D f

theorem BalM.lt {w : World} {M N : Nat} {f : AccT → Int} (h : BalM w M N f) : M < w.heap.size := let ⟨_, h, _⟩ := h; h.lt
theorem BalM.below {w w' : World} {M N : Nat} {f : AccT → Int} (h : BalM w M N f) (hb : Below w.heap.size w w') : BalM w' M N f := let ⟨D, h, h2⟩ := h; ⟨D, h.kept (grown_below hb none) (by simp), h2⟩
theorem BalM.grown {w w' : World} {M N : Nat} {f : AccT → Int} {r : Nat} (h : BalM w M N f) (hg : w.grownBy w' (some r)) (hne : M ≠ r) : BalM w' M N f := let ⟨D, h, h2⟩ := h; ⟨D, h.kept hg (by simp; exact hne), h2⟩

theorem zeroI (w : World) : (zeroValue 3).run Try.prog w = .ok (.int .i64 0) w := by kernel_rfl

theorem BalM.look {w : World} {M N : Nat} {f : AccT → Int} (h : BalM w M N f) (a : AccT) (ha : WfA a) :
    (Instr.lookup 52 (.map (some M)) (accV a) false).run Try.prog w = .ok (.int .i64 (f a)) w := by
  obtain ⟨D, h, h2⟩ := h
  obtain ⟨c, hrun, hat, _⟩ := h.lookup_int lawA Try.underlying52 Try.underlying3 (zeroI w) (key_acc a ha)
  rw [h2.val a ha] at hat
  simp only [DataW.lit.injEq, Lit.int.injEq, true_and] at hat
  rw [hrun, hat]

/-! ### slices.Clone of postings -/
theorem info_post : (Try.prog.info? 44).map (fun i => (i.zero, i.size, i.bytes)) = some (some (.agg #[.int .i64 0, .string ⟨#[]⟩, .int .i64 0]), 3, 32) := by kernel_rfl

theorem OwnRecs.nil {w : World} {B : Nat} {T : TypeId} : OwnRecs PostE w B T none 0 [] := ⟨rfl, fun h => absurd h (Nat.lt_irrefl _)⟩

set_option maxRecDepth 10000 in
theorem clone_posts (ra : Option Addr) (n c : Nat) (l : List PostT) (w : World) (hM : Posts w ra n l) (hn : n ≤ 1000) :
    Calls Try.prog 35 #[.slice ra n c] w fun e w' => ∃ la k c', e = .returned (.slice la k c') ∧ Below w.heap.size w w' ∧ OwnRecs PostE w' w.heap.size 44 la k l := by
  have hlen := hM.1
  cases ra with
  | none =>
    have h0 : n = 0 := by
      rcases Nat.eq_zero_or_pos n with h | h
      · exact h
      · obtain ⟨b, o, e, _⟩ := hM.2 0 h; simp at e
    have hl : l = [] := List.length_eq_zero_iff.mp (by omega)
    subst hl
    subst h0
    have hnil := fun w => Lib.run_eql_slice_nil (P := Try.prog) w 32 44 none 0 c 0 0 Try.underlying32
    go_enter Try.func35, Try.ntmps35
    go_wp2_with fail
    go_ret
    exact ⟨none, 0, 0, rfl, Below.refl _ _, OwnRecs.nil⟩
  | some ad =>
    have hnil := fun w => Lib.run_eql_slice_nil (P := Try.prog) w 32 44 (some ad) n c 0 0 Try.underlying32
    have HM := Lib.hid (hM.below (Joins.below_alloc1 w (.cells #[] 44)))
    clear hM
    obtain ⟨i1, hj, hj0, hj1, hj2⟩ := info_parts info_post
    have HOW := Lib.hid (World.ownsRow_made (e := 44) (size := 3) w #[] 0 (Nat.le_refl _) (by unfold maxLen; omega) rfl)
    have hfl : (flat PostE l).length = n * 3 := by rw [flat_len, hlen]
    have HFC := Lib.hid (flat_cells HM.out)
    go_enter Try.func35, Try.ntmps35
    go_wp2_with (at_builtin; refine wpList_append_own _ rfl _ _ 32 rfl w.heap.size 44 i1 _ 3 32 Try.underlying32 hj hj0 hj1 hj2 rfl (by decide) _ 0 [] rfl HOW.out ad n c (flat PostE l) rfl hfl HFC.out flat_one (by unfold maxLen; omega) (by omega) (by simp) ?_; skip)
    intro v' w3 hown' hgrow _
    have HN := Lib.hid (And.intro hown' hgrow)
    clear hown' hgrow
    obtain ⟨la, c', rfl, ho⟩ := OwnRecs.of_row HN.out.1
    have HO := Lib.hid ho
    clear ho
    go_wp2_with fail
    go_ret
    exact ⟨la, n, c', rfl, ((Below.refl _ _).alloc (Nat.le_refl _) _).grown HN.out.2 (by simp) (fun k hk => by simp [Value.ownBlock] at hk; omega), HO.out⟩

/-! ### maps.Clone -/
set_option maxRecDepth 10000 in
theorem clone_map (M N : Nat) (f : AccT → Int) (w : World) (h : BalM w M N f) :
    Calls Try.prog 34 #[.map (some M)] w fun e w' => ∃ M', e = .returned (.map (some M')) ∧ w.heap.size ≤ M' ∧ Below w.heap.size w w' ∧ BalM w' M' N f := by
  obtain ⟨D, ⟨es, clock, hb, F, hs, hD⟩, h2⟩ := h
  have hq := fun w => run_eql_map_nil_sl (P := Try.prog) w 52 _ _ (some M) Try.underlying52
  have hB := Joins.below_alloc1 w (.map es clock)
  have HB := Lib.hid hB
  have HN : Hid (BalM (w.alloc (.map es clock)) w.heap.size N f) := ⟨D, ⟨es, clock, World.alloc_heap_new w _, F, hs, hD⟩, h2⟩
  have hrun := run_maps_clone_sl (P := Try.prog) w 52 hb
  clear h2 hD hs F hB
  go_enter Try.func34, Try.ntmps34
  go_wp2
  rw [run_callFunc_extern Try.func49 (by kernel_rfl) (by kernel_rfl) (by kernel_rfl) (e := Extern.MapsClone.clone) (by kernel_rfl), hrun]
  simp only [Result.andThen]
  rw [Oper.upon_value]
  go_wp2
  rw [run_typeAssert_map_sl _ 52 20 _ _ _ Try.underlying52]
  simp only [Result.andThen]
  rw [Oper.upon_value]
  go_wp2
  go_ret
  exact ⟨_, rfl, Nat.le_refl _, HB.out, HN.out⟩
end Go.Proofs.Ytafhdpalobalkaa
