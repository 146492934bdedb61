/- hold: the laws' played and same; hold: the laws' example. -/
import Derived.Test.YtkdbenoleendcaaGreatDoorQHMB33

namespace Go.Proofs.YtkdbenoleendcaaGreatDoor
open Go.RowKit Go.IntWalk Go.Maps Go.WideMaps

theorem do_last {nm : NmT → Bool} {st : St} (hi : Inv st) (x : OpT) : (doS nm st x).2.last ≤ st.last + 1 := by
  unfold doS
  split
  · unfold takeS
    split
    · exact Nat.le_succ _
    · split
      · exact Nat.le_succ _
      · split
        · exact Nat.le_succ _
        · exact Nat.le_refl _
  · split
    · by_cases h0 : (swapS st x.2.2.2.1 x.2.2.1).1 = 0
      · obtain ⟨y, hy⟩ := swap_ok hi h0
        rw [hy.out]
        exact Nat.le_succ _
      · rw [swap_same hi h0]; exact Nat.le_succ _
    · split
      · rw [end_last]; exact Nat.le_succ _
      · split
        · rw [expire_last hi]; exact Nat.le_succ _
        · split
          · rw [end_last]; exact Nat.le_succ _
          · unfold freeS
            split
            · exact Nat.le_succ _
            · split
              · exact Nat.le_succ _
              · exact Nat.le_succ _

theorem play_last {nm : NmT → Bool} : ∀ (l : List OpT) {st : St}, Inv st → (playS nm st l).last ≤ st.last + l.length := by
  intro l
  induction l with
  | nil => intro st _; exact Nat.le_refl _
  | cons x l ih =>
    intro st hi
    have h1 := ih (do_inv (nm := nm) hi x)
    have h2 := do_last (nm := nm) hi x
    show (playS nm (doS nm st x).2 l).last ≤ _
    rw [List.length_cons]
    omega

theorem OpsIn.below {w w' : World} {B : Nat} {rs : List OpR} (h : OpsIn w B rs) (hb : Below w.heap.size w w') : OpsIn w' B rs := by
  intro r hr
  obtain ⟨h1, h2, h3⟩ := h r hr
  exact ⟨h1, h2.below hb, h3⟩

theorem new_len (n : Nat) : (newS n).sp.length = n := by simp [newS]

theorem HRow.recs {w : World} {v : Value} {op : List HoldT} (h : HRow w v op) (hp : ∀ x ∈ op, x.2.2.1.length ≤ 4000) : ∃ E la c, v = .slice la E.length c ∧ E.map (·.1) = op ∧ Recs OwnE w la E.length E ∧ (∀ x ∈ E, PlIn w x) ∧ E.length ≤ c := by
  obtain ⟨E, la, c, e, ho, hr, hpl, hc⟩ := h
  refine ⟨E, la, c, e, ho, ⟨rfl, fun i hi => ?_⟩, fun x hx => ?_, hc⟩
  · obtain ⟨b, e, r⟩ := hr (by omega)
    exact ⟨b, 0, e, fun j hj => by rw [Nat.zero_add]; exact r.cell i j hi hj⟩
  · obtain ⟨b, e, _, r⟩ := hpl x hx
    refine ⟨hp x.1 (by rw [← ho]; exact List.mem_map_of_mem hx), ?_⟩
    rw [e]
    exact ⟨rfl, fun k hk => ⟨b, 0, rfl, by rw [Nat.zero_add]; exact r.cell k hk⟩⟩

theorem inv_pl {st : St} (h : Inv st) : ∀ x ∈ st.op, x.2.2.1.length ≤ 4000 := fun x hx => by
  have := (choice_iff.mp (h.chs x hx)).1.2
  omega

/-- SameSpaces and SameHolds at lists that were handed back. -/
theorem hs_samesp {w : World} {A B : Nat} {v u : Value} {sp sq : List SpT} (h : SRow w A v sp) (k : SRow w B u sq) (h1 : sp.length ≤ 4000) (h2 : sq.length ≤ 4000) :
    Calls Tryz.prog 16 #[v, u] w fun e w' => e = .returned (.bool (decide (sp = sq))) ∧ Below w.heap.size w w' := by
  obtain ⟨la, c, rfl, hr⟩ := h.recs
  obtain ⟨lb, c2, rfl, hr2⟩ := k.recs
  refine (samesp_any la lb _ c _ c2 sp sq w hr hr2 (by omega) (by omega)).mono ?_
  rintro e w' ⟨rfl, hq⟩
  exact ⟨rfl, hq.below⟩

theorem hs_sameho {w : World} {v u : Value} {op oq : List HoldT} (h : HRow w v op) (k : HRow w u oq) (h1 : op.length ≤ 4000) (h2 : oq.length ≤ 4000) (hp : ∀ x ∈ op, x.2.2.1.length ≤ 4000) (hq : ∀ x ∈ oq, x.2.2.1.length ≤ 4000) :
    Calls Tryz.prog 19 #[v, u] w fun e w' => e = .returned (.bool (decide (op = oq))) ∧ Below w.heap.size w w' := by
  obtain ⟨E, la, c, rfl, ho, hr, hpl, _⟩ := h.recs hp
  obtain ⟨E2, lb, c2, rfl, ho2, hr2, hpl2, _⟩ := k.recs hq
  have hl : E.length ≤ 4000 := by rw [← ho] at h1; simpa using h1
  have hl2 : E2.length ≤ 4000 := by rw [← ho2] at h2; simpa using h2
  refine (sameholds_any la lb _ c _ c2 E E2 w hr hr2 hpl hpl2 (by omega) (by omega)).mono ?_
  rintro e w' ⟨rfl, hb⟩
  rw [ho, ho2]
  exact ⟨rfl, hb⟩
end Go.Proofs.YtkdbenoleendcaaGreatDoor

namespace Go.Proofs.YtkdbenoleendcaaGreatDoor
open Go.RowKit Go.IntWalk Go.Maps Go.WideMaps

/-- A Holds of the call's own. -/
structure Hd (w wx : World) (g M sb : Nat) (st : St) : Prop where
  below : Below w.heap.size w wx
  hs : HS wx g M sb st
  own : ∀ i, Own3 g M sb i → w.heap.size ≤ i

section
variable {w wx w' : World} {g M sb : Nat} {st st' : St}
theorem Hd.step (h : Hd w wx g M sb st) (hh : HS w' g M sb st') (hu : Upd (Own3 g M sb) wx w') : Hd w w' g M sb st' := ⟨Upd.below h.below hu h.own, hh, h.own⟩
theorem Hd.next (h : Hd w wx g M sb st) (hb : Below wx.heap.size wx w') : Hd w w' g M sb st := ⟨h.below.trans (hb.mono h.below.size), h.hs.below hb, h.own⟩

theorem IntRow.ints {b : Nat} {L : List Int} (h : IntRow w b 3 L) : Ints w (some ⟨b, 0, none⟩) L.length L := ⟨rfl, fun k hk => ⟨b, 0, rfl, by rw [Nat.zero_add]; exact h.cell k hk⟩⟩

theorem row_own {b : Nat} {L : List Int} (h : IntRow w b 3 L) (hs : HS w g M sb st) : ∀ wx, Upd (Own3 g M sb) w wx → Ints wx (some ⟨b, 0, none⟩) L.length L := fun wx hu => by
  obtain ⟨arr, ha, r⟩ := h
  exact IntRow.ints (IntRow.keep ⟨arr, ha, r⟩ hu (hs.not_own ha (by decide) (by decide)))

theorem row_new (w : World) (L : List Int) : IntRow (w.alloc (.cells ((L.map (Value.int .i64)).toArray) 3)) w.heap.size 3 L := by
  refine ⟨_, World.alloc_heap_new w _, by simp, fun k hk => ?_⟩
  simp [ix, List.getD_eq_getElem?_getD, hk]
end

theorem end_nil (id : Int) (s : SpT) (w : World) : Calls Tryz.prog 44 #[.pointer none, .int .i64 id, .agg #[.int .i64 s.1, .int .i64 s.2]] w fun e w' => e = .returned (.tuple #[.slice none 0 0, .int .i64 1]) ∧ Below w.heap.size w w' := by
  go_enter Tryz.func44, Tryz.ntmps44
  go_wp2_with fail
  go_ret2
  exact ⟨rfl, Joins.below_alloc1 _ _⟩

theorem sell_nil (id : Int) (w : World) : Calls Tryz.prog 25 #[.pointer none, .int .i64 id] w fun e w' => e = .returned (.tuple #[.slice none 0 0, .int .i64 1]) ∧ Below w.heap.size w w' := by
  have HC := Lib.hid (end_nil id (2, id) w)
  go_enter Tryz.func25, Tryz.ntmps25
  go_wp2_with fail
  refine HC.out.mono ?_
  rintro e w' ⟨rfl, hb⟩
  have HB := Lib.hid hb
  clear hb HC
  go_wp2_with fail
  go_ret2
  exact ⟨rfl, HB.out⟩

def nmAnn : NmT := [97, 110, 110]
def nmBob : NmT := [98, 111, 98]
def nmCarl : NmT := [99, 97, 114, 108]

def sX1 : St := ⟨[(1, 1), (1, 1), (0, 0), (0, 0), (0, 0)], 1, [(1, nmAnn, [0, 1], 10, 0)]⟩
def sX2 : St := ⟨[(1, 1), (1, 1), (1, 2), (0, 0), (0, 0)], 2, [(1, nmAnn, [0, 1], 10, 0), (2, nmBob, [2], 20, 3)]⟩
def sX3 : St := ⟨[(1, 1), (1, 1), (0, 0), (1, 2), (1, 2)], 2, [(1, nmAnn, [0, 1], 10, 0), (2, nmBob, [3, 4], 20, 3)]⟩
def sX4 : St := ⟨[(0, 0), (0, 0), (0, 0), (1, 2), (1, 2)], 2, [(2, nmBob, [3, 4], 20, 3)]⟩
def sX5 : St := ⟨[(1, 3), (0, 0), (0, 0), (1, 2), (1, 2)], 3, [(2, nmBob, [3, 4], 20, 3), (3, nmCarl, [0], 30, 0)]⟩
def sX6 : St := ⟨[(2, 3), (0, 0), (0, 0), (1, 2), (1, 2)], 3, [(2, nmBob, [3, 4], 20, 3)]⟩
def sX7 : St := ⟨[(0, 0), (0, 0), (0, 0), (1, 2), (1, 2)], 3, [(2, nmBob, [3, 4], 20, 3)]⟩

theorem ex1 : takeS (newS 5) (nameS nmAnn) nmAnn [0, 1] 10 0 = ((1, 0), sX1) := by kernel_rfl
theorem ex1b : takeS sX1 (nameS nmBob) nmBob [1, 2] 20 0 = ((0, 16), sX1) := by kernel_rfl
theorem ex2 : takeS sX1 (nameS nmBob) nmBob [2] 20 3 = ((2, 0), sX2) := by kernel_rfl
theorem ex3 : swapS sX2 2 [3, 4] = (0, sX3) := by kernel_rfl
theorem ex4 : expireS sX3 11 = ([1], sX4) := by kernel_rfl
theorem ex5 : takeS sX4 (nameS nmCarl) nmCarl [0] 30 0 = ((3, 0), sX5) := by kernel_rfl
theorem ex6 : endS sX5 3 (2, 3) = (([0], 0), sX6) := by kernel_rfl
theorem ex7 : freeS sX6 0 = (0, sX7) := by kernel_rfl
theorem ex7b : freeS sX7 0 = (12, sX7) := by kernel_rfl
end Go.Proofs.YtkdbenoleendcaaGreatDoor
