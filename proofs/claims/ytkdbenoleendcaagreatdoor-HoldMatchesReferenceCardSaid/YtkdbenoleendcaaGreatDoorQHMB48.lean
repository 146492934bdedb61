/- hold and foyerref26: the operations of a Holds that may be nil. -/
import Derived.Test.YtkdbenoleendcaaGreatDoorQHMB41
import Derived.Test.YtkdbenoleendcaaGreatDoorQHMB46
import Derived.Test.YtkdbenoleendcaaGreatDoorQHMB47

namespace Go.Proofs.YtkdbenoleendcaaGreatDoor
open Go.RowKit Go.IntWalk Go.Maps Go.WideMaps

/-- A Holds that may be nil. -/
def HO (w : World) (hv : Value) (g M sb : Nat) : Option St → Prop
  | none => hv = .pointer none
  | some st => hv = .pointer (some ⟨g, 0, none⟩) ∧ HS w g M sb st

/-- A Holds of the reference that may be nil. -/
def RO (w : World) (rv : Value) (g B : Nat) : Option St → Prop
  | none => rv = .pointer none
  | some st => rv = .pointer (some ⟨g, 0, none⟩) ∧ RS w g B st

/-- The blocks of a Holds that may be nil. -/
def OsB (so : Option St) (g M sb i : Nat) : Prop := so ≠ none ∧ Own3 g M sb i
def GsB (so : Option St) (g i : Nat) : Prop := so ≠ none ∧ i = g

/-- What an operation gives, and leaves. -/
def doO : Option St → OpT → (Int × List Int × Int) × Option St
  | none, x => ((0, [], if x.1 = 3 then 0 else 1), none)
  | some st, x => ((doS nameS st x).1, some (doS nameS st x).2)

def spO : Option St → List SpT
  | none => []
  | some st => st.sp
def opO : Option St → List HoldT
  | none => []
  | some st => st.op

/-- The sizes that the walks ask for. -/
def SzO (n k : Nat) (so : Option St) : Prop := ∀ st, so = some st → st.sp.length ≤ n ∧ st.last ≤ k ∧ Inv st

theorem doO_none (x : OpT) : doO none x = ((0, [], if x.1 = 3 then 0 else 1), none) := rfl

theorem SzO.step {n k : Nat} {so : Option St} (h : SzO n k so) (x : OpT) : SzO n (k + 1) (doO so x).2 := by
  cases so with
  | none => intro st e; cases e
  | some st =>
    intro st' e
    cases e
    obtain ⟨h1, h2, h3⟩ := h st rfl
    exact ⟨by show (doS nameS st x).2.sp.length ≤ n; rw [do_len]; exact h1, Nat.le_trans (do_last h3 x) (by omega), do_inv h3 x⟩

theorem SzO.wide {n k k' : Nat} {so : Option St} (h : SzO n k so) (hk : k ≤ k') : SzO n k' so := fun st e => ⟨(h st e).1, Nat.le_trans (h st e).2.1 hk, (h st e).2.2⟩

section
variable {w w' : World} {hv rv : Value} {g M sb gr B : Nat} {so so2 : Option St}

theorem HO.below (h : HO w hv g M sb so) (hb : Below w.heap.size w w') : HO w' hv g M sb so := by
  cases so with
  | none => exact h
  | some st => exact ⟨h.1, h.2.below hb⟩
theorem RO.below (h : RO w rv gr B so) (hb : Below w.heap.size w w') : RO w' rv gr B so := by
  cases so with
  | none => exact h
  | some st => exact ⟨h.1, h.2.below hb⟩

theorem RO.not_own (h : RO w rv gr B so) {b : Nat} {o : Obj} (hb : w.heap[b]? = some o) (ho : ∀ arr x, o ≠ .cells arr 58 x) : ¬ GsB so gr b := by
  cases so with
  | none => exact fun e => e.1 rfl
  | some st =>
    obtain ⟨_, _, _, oa, oc, sa, sc, E, hc, _⟩ := h
    rintro ⟨_, rfl⟩
    have := hc.blk
    rw [hb] at this
    exact ho _ _ (Option.some.inj this)

theorem HO.not_own (h : HO w hv g M sb so) {b : Nat} {arr : Array Value} {T : TypeId} {x : Nat × Nat} (hb : w.heap[b]? = some (.cells arr T x)) (h1 : T ≠ 56) (h2 : T ≠ 53) : ¬ OsB so g M sb b := by
  cases so with
  | none => exact fun e => e.1 rfl
  | some st => exact fun e => h.2.not_own hb h1 h2 e.2

/-- The reference has changed. -/
theorem HO.other (h : HO w hv g M sb so) (k : RO w rv gr B so2) (hu : Upd (GsB so2 gr) w w') : HO w' hv g M sb so := by
  cases so with
  | none => exact h
  | some st =>
    refine ⟨h.1, ?_⟩
    obtain ⟨E, h⟩ := h.2
    have hp : ∀ x ∈ E, PlAt w' TT x := fun x hx => by
      obtain ⟨b, e, hb, arr, ha, hr⟩ := h.pls x hx
      exact ⟨b, e, hb, arr, (hu.block b (lt_of_block ha) (k.not_own ha (fun _ _ e => by cases e))).trans ha, hr⟩
    refine ⟨E, ⟨(hu.block g (lt_of_block h.blk) (k.not_own h.blk (fun _ _ e => by cases e))).trans h.blk, ?_, ?_, h.ops, hp, h.inv⟩⟩
    · obtain ⟨es, c, e, r⟩ := h.map
      exact ⟨es, c, (hu.block M (lt_of_block e) (k.not_own e (fun _ _ e => by cases e))).trans e, r⟩
    · obtain ⟨arr, ha, r⟩ := h.sps
      exact ⟨arr, (hu.block sb (lt_of_block ha) (k.not_own ha (fun _ _ e => by cases e))).trans ha, r⟩

/-- The Holds has changed. -/
theorem RO.other (h : RO w rv gr B so) (k : HO w hv g M sb so2) (hu : Upd (OsB so2 g M sb) w w') (hs : sb < B) : RO w' rv gr B so := by
  cases so with
  | none => exact h
  | some st =>
    refine ⟨h.1, ?_⟩
    obtain ⟨hw, hi, oa, oc, sa, sc, E, hc, hsa⟩ := h.2
    refine ⟨Nat.le_trans hw hu.size, hi, oa, oc, sa, sc, E, ⟨(hu.block gr (lt_of_block hc.blk) (k.not_own hc.blk (by decide) (by decide))).trans hc.blk, hc.opn.upd hu (fun b arr ty x hb ht => ?_), hc.ops, fun hn => ?_, hc.cap⟩, hsa⟩
    · rcases ht with rfl | rfl
      · exact k.not_own hb (by decide) (by decide)
      · exact k.not_own hb (by decide) (by decide)
    · obtain ⟨b, e, arr, ha, r⟩ := hc.sps hn
      refine ⟨b, e, arr, (hu.block b (lt_of_block ha) (fun ho => ?_)).trans ha, r⟩
      have hB := hsa b 0 e
      obtain ⟨hne, ho⟩ := ho
      cases so2 with
      | none => exact hne rfl
      | some st2 =>
        obtain ⟨E2, h2⟩ := k.2
        rcases ho with rfl | rfl | rfl
        · have := h2.blk
          rw [ha] at this
          cases this
        · obtain ⟨es, c, e2⟩ := h2.map_blk
          rw [ha] at e2
          cases e2
        · omega

theorem LRes.keepR {v : Value} {L : List Int} (h : LRes w v L) (k : RO w rv gr B so) (hu : Upd (GsB so gr) w w') : LRes w' v L := by
  rcases h with h | ⟨b, c, e, hr⟩
  · exact Or.inl h
  · obtain ⟨arr, ha, r⟩ := hr
    exact Or.inr ⟨b, c, e, IntRow.keep ⟨arr, ha, r⟩ hu (k.not_own ha (fun _ _ e => by cases e))⟩

theorem Upd.some_o {st : St} (h : Upd (Own3 g M sb) w w') : Upd (OsB (some st) g M sb) w w' := h.wide fun _ hi => ⟨by simp, hi⟩
theorem Upd.some_g {st : St} (h : Upd (Gb gr) w w') : Upd (GsB (some st) gr) w w' := h.wide fun _ hi => ⟨by simp, hi⟩
end

/-- What do gives, and leaves. -/
def DoPostO (hv : Value) (g M sb : Nat) (so : Option St) (x : OpT) (w : World) (e : Ending) (w' : World) : Prop :=
  ∃ v, e = .returned (.tuple #[.int .i64 (doO so x).1.1, v, .int .i64 (doO so x).1.2.2]) ∧ LRes w' v (doO so x).1.2.1 ∧ HO w' hv g M sb (doO so x).2 ∧ Upd (OsB so g M sb) w w'

set_option maxRecDepth 10000 in
set_option maxHeartbeats 3200000 in
theorem do_nil (w : World) (k : Int) (t : NmT) (L : List Int) (id cl : Int) (pa : Option Addr) (m mc : Nat) :
    Calls Tryz.prog 8 #[.pointer none, .agg #[.int .i64 k, .string (bs t), .slice pa m mc, .int .i64 id, .int .i64 cl]] w fun e w' =>
      e = .returned (.tuple #[.int .i64 (doO none (k, t, L, id, cl)).1.1, .slice none 0 0, .int .i64 (doO none (k, t, L, id, cl)).1.2.2]) ∧ Below w.heap.size w w' := by
  have hb := Joins.below_alloc1 w (.cells #[.int .i64 k, .string (bs t), .slice pa m mc, .int .i64 id, .int .i64 cl] 31)
  have HB := Lib.hid hb
  have HX : Hid ((w.alloc (.cells #[.int .i64 k, .string (bs t), .slice pa m mc, .int .i64 id, .int .i64 cl] 31)).heap[w.heap.size]? = some (.cells #[.int .i64 k, .string (bs t), .slice pa m mc, .int .i64 id, .int .i64 cl] 31 (0, 0))) := World.alloc_heap_new w _
  clear hb
  go_enter Tryz.func8, Tryz.ntmps8
  go_upto_region 1 with fail
  generalize w.alloc (.cells #[.int .i64 k, .string (bs t), .slice pa m mc, .int .i64 id, .int .i64 cl] 31) = w1 at *
  have x0 : w1.cell? ⟨w.heap.size, 0, none⟩ = some (.int .i64 k) := cell_of_row (j := 0) _ _ _ _ _ HX.out
  have x1 : w1.cell? ⟨w.heap.size, 1, none⟩ = some (.string (bs t)) := cell_of_row (j := 1) _ _ _ _ _ HX.out
  have x2 : w1.cell? ⟨w.heap.size, 2, none⟩ = some (.slice pa m mc) := cell_of_row (j := 2) _ _ _ _ _ HX.out
  have x3 : w1.cell? ⟨w.heap.size, 3, none⟩ = some (.int .i64 id) := cell_of_row (j := 3) _ _ _ _ _ HX.out
  have x4 : w1.cell? ⟨w.heap.size, 4, none⟩ = some (.int .i64 cl) := cell_of_row (j := 4) _ _ _ _ _ HX.out
  clear HX
  have FIN : Hid (∀ w2 : World, Below w1.heap.size w1 w2 → Below w.heap.size w w2) := fun w2 h => HB.out.trans (h.mono HB.out.size)
  by_cases h0 : k = 0
  · have HS1 : Hid (doO none (k, t, L, id, cl) = ((0, [], 1), none)) := by
      show _ = _
      rw [doO_none, if_neg (by dsimp only; omega)]
    have hk0 : (k == 0) = true := by simp [h0]
    clear h0
    go_wp2_with fail
    refine (htake_nil t pa m mc id cl _).mono ?_
    rintro e w2 ⟨rfl, hb⟩
    have HB2 := Lib.hid hb
    clear hb x0 x1 x2 x3 x4
    go_wp2_with fail
    go_ret3
    exact ⟨by rw [HS1.out]; rfl, FIN.out _ HB2.out⟩
  have hk0 : (k == 0) = false := by simp [h0]
  by_cases h1 : k = 1
  · have HS1 : Hid (doO none (k, t, L, id, cl) = ((0, [], 1), none)) := by
      show _ = _
      rw [doO_none, if_neg (by dsimp only; omega)]
    have hk1 : (k == 1) = true := by simp [h1]
    clear h1
    go_wp2_with fail
    refine (hswap_nil id pa m mc _).mono ?_
    rintro e w2 ⟨rfl, hb⟩
    have HB2 := Lib.hid hb
    clear hb x0 x1 x2 x3 x4
    go_wp2_with fail
    go_ret3
    exact ⟨by rw [HS1.out]; rfl, FIN.out _ HB2.out⟩
  have hk1 : (k == 1) = false := by simp [h1]
  by_cases h2 : k = 2
  · have HS1 : Hid (doO none (k, t, L, id, cl) = ((0, [], 1), none)) := by
      show _ = _
      rw [doO_none, if_neg (by dsimp only; omega)]
    have hk2 : (k == 2) = true := by simp [h2]
    clear h2
    go_wp2_with fail
    refine (hrelease_nil id _).mono ?_
    rintro e w2 ⟨rfl, hb⟩
    have HB2 := Lib.hid hb
    clear hb x0 x1 x2 x3 x4
    go_wp2_with fail
    go_ret3
    exact ⟨by rw [HS1.out]; rfl, FIN.out _ HB2.out⟩
  have hk2 : (k == 2) = false := by simp [h2]
  by_cases h3 : k = 3
  · have HS1 : Hid (doO none (k, t, L, id, cl) = ((0, [], 0), none)) := by
      show _ = _
      rw [doO_none, if_pos h3]
    have hk3 : (k == 3) = true := by simp [h3]
    clear h3
    go_wp2_with fail
    refine (hexpire_nil id _).mono ?_
    rintro e w2 ⟨rfl, hb⟩
    have HB2 := Lib.hid hb
    clear hb x0 x1 x2 x3 x4
    go_wp2_with fail
    go_ret3
    exact ⟨by rw [HS1.out]; rfl, FIN.out _ HB2.out⟩
  have hk3 : (k == 3) = false := by simp [h3]
  have HS1 : Hid (doO none (k, t, L, id, cl) = ((0, [], 1), none)) := by
    show _ = _
    rw [doO_none, if_neg h3]
  by_cases h4 : k = 4
  · have hk4 : (k == 4) = true := by simp [h4]
    clear h4
    go_wp2_with fail
    refine (hsell_nil id _).mono ?_
    rintro e w2 ⟨rfl, hb⟩
    have HB2 := Lib.hid hb
    clear hb x0 x1 x2 x3 x4
    go_wp2_with fail
    go_ret3
    exact ⟨by rw [HS1.out]; rfl, FIN.out _ HB2.out⟩
  have hk4 : (k == 4) = false := by simp [h4]
  clear h0 h1 h2 h3 h4
  go_wp2_with fail
  refine (hfree_nil id _).mono ?_
  rintro e w2 ⟨rfl, hb⟩
  have HB2 := Lib.hid hb
  clear hb x0 x1 x2 x3 x4
  go_wp2_with fail
  go_ret3
  exact ⟨by rw [HS1.out]; rfl, FIN.out _ HB2.out⟩

theorem do_o (w : World) (hv : Value) (g M sb : Nat) (so : Option St) (k : Int) (t : NmT) (L : List Int) (id cl : Int) (pa : Option Addr) (m mc : Nat) (h : HO w hv g M sb so) (hz : SzO 200 1000 so) (hm : m ≤ 4000) (hlen : t.length ≤ 1000) (hw : (Lit.int .i64 id).wf = true)
    (hL : ∀ wx, Upd (OsB so g M sb) w wx → Ints wx pa m L) :
    Calls Tryz.prog 8 #[hv, .agg #[.int .i64 k, .string (bs t), .slice pa m mc, .int .i64 id, .int .i64 cl]] w (DoPostO hv g M sb so (k, t, L, id, cl) w) := by
  cases so with
  | none =>
    obtain rfl : hv = .pointer none := h
    refine (do_nil w k t L id cl pa m mc).mono ?_
    rintro e w' ⟨rfl, hb⟩
    exact ⟨_, rfl, LRes.nil _, rfl, Upd.of_below hb⟩
  | some st =>
    obtain ⟨rfl, h⟩ := h
    obtain ⟨z1, z2, _⟩ := hz st rfl
    refine (do_any w g M sb st k t L id cl pa m mc h (by omega) z2 hm hlen hw (fun wx hu => hL wx hu.some_o)).mono ?_
    rintro e w' ⟨v, rfl, hl, hh, hu⟩
    exact ⟨v, rfl, hl, ⟨rfl, hh⟩, hu.some_o⟩

theorem do_free (st : St) (k : Int) (t : NmT) (L : List Int) (id cl : Int) (h0 : k ≠ 0) (h1 : k ≠ 1) (h2 : k ≠ 2) (h3 : k ≠ 3) (h4 : k ≠ 4) : doS nameS st (k, t, L, id, cl) = ((0, [], (freeS st id).1), (freeS st id).2) := by
  unfold doS
  rw [if_neg h0, if_neg h1, if_neg h2, if_neg h3, if_neg h4]

section
variable {w : World} {rv : Value} {g B : Nat} {so : Option St} (h : RO w rv g B so) (hz : SzO 200 1000 so)
include h hz

theorem rtake_o (t : NmT) (L : List Int) (pa : Option Addr) (m mc : Nat) (id cl : Int) (hm : m ≤ 4000) (hmc : m ≤ mc) (hlen : t.length ≤ 1000) (hL : ∀ wx, Upd (GsB so g) w wx → Ints wx pa m L) :
    Calls Tryz.prog 9 #[rv, .string (bs t), .slice pa m mc, .int .i64 id, .int .i64 cl] w fun e w' =>
      e = .returned (.tuple #[.int .i64 (doO so (0, t, L, id, cl)).1.1, .int .i64 (doO so (0, t, L, id, cl)).1.2.2]) ∧ LRes w' (.slice none 0 0) (doO so (0, t, L, id, cl)).1.2.1 ∧ RO w' rv g B (doO so (0, t, L, id, cl)).2 ∧ Upd (GsB so g) w w' := by
  cases so with
  | none =>
    obtain rfl : rv = .pointer none := h
    refine (rtake_nil t pa m mc id cl w).mono ?_
    rintro e w' ⟨rfl, hb⟩
    exact ⟨rfl, LRes.nil _, rfl, Upd.of_below hb⟩
  | some st =>
    obtain ⟨rfl, h⟩ := h
    obtain ⟨z1, z2, _⟩ := hz st rfl
    refine (rtake_any w g B st t L pa m mc id cl h (by omega) z2 hm hmc hlen (fun wx hu => hL wx hu.some_g)).mono ?_
    rintro e w' ⟨rfl, hh, hu⟩
    exact ⟨rfl, LRes.nil _, ⟨rfl, hh⟩, hu.some_g⟩

theorem rswap_o (t : NmT) (L : List Int) (pa : Option Addr) (m mc : Nat) (id cl : Int) (hm : m ≤ 4000) (hmc : m ≤ mc) (hL : ∀ wx, Upd (GsB so g) w wx → Ints wx pa m L) :
    Calls Tryz.prog 10 #[rv, .int .i64 id, .slice pa m mc] w fun e w' =>
      e = .returned (.int .i64 (doO so (1, t, L, id, cl)).1.2.2) ∧ LRes w' (.slice none 0 0) (doO so (1, t, L, id, cl)).1.2.1 ∧ RO w' rv g B (doO so (1, t, L, id, cl)).2 ∧ Upd (GsB so g) w w' := by
  cases so with
  | none =>
    obtain rfl : rv = .pointer none := h
    refine (rswap_nil id pa m mc w).mono ?_
    rintro e w' ⟨rfl, hb⟩
    exact ⟨rfl, LRes.nil _, rfl, Upd.of_below hb⟩
  | some st =>
    obtain ⟨rfl, h⟩ := h
    obtain ⟨z1, z2, _⟩ := hz st rfl
    refine (rswap_any w g B st id L pa m mc h (by omega) z2 hm hmc (fun wx hu => hL wx hu.some_g)).mono ?_
    rintro e w' ⟨rfl, hh, hu⟩
    exact ⟨rfl, LRes.nil _, ⟨rfl, hh⟩, hu.some_g⟩

theorem rrelease_o (t : NmT) (L : List Int) (id cl : Int) :
    Calls Tryz.prog 11 #[rv, .int .i64 id] w fun e w' =>
      e = .returned (.int .i64 (doO so (2, t, L, id, cl)).1.2.2) ∧ LRes w' (.slice none 0 0) (doO so (2, t, L, id, cl)).1.2.1 ∧ RO w' rv g B (doO so (2, t, L, id, cl)).2 ∧ Upd (GsB so g) w w' := by
  cases so with
  | none =>
    obtain rfl : rv = .pointer none := h
    refine (rrelease_nil id w).mono ?_
    rintro e w' ⟨rfl, hb⟩
    exact ⟨rfl, LRes.nil _, rfl, Upd.of_below hb⟩
  | some st =>
    obtain ⟨rfl, h⟩ := h
    obtain ⟨z1, z2, _⟩ := hz st rfl
    refine (rrelease_any w g B st id h (by omega) z2).mono ?_
    rintro e w' ⟨rfl, hh, hu⟩
    exact ⟨rfl, LRes.nil _, ⟨rfl, hh⟩, hu.some_g⟩

theorem rexpire_o (t : NmT) (L : List Int) (id cl : Int) :
    Calls Tryz.prog 12 #[rv, .int .i64 id] w fun e w' =>
      ∃ v, e = .returned v ∧ LRes w' v (doO so (3, t, L, id, cl)).1.2.1 ∧ RO w' rv g B (doO so (3, t, L, id, cl)).2 ∧ Upd (GsB so g) w w' := by
  cases so with
  | none =>
    obtain rfl : rv = .pointer none := h
    refine (rexpire_nil id w).mono ?_
    rintro e w' ⟨rfl, hb⟩
    exact ⟨_, rfl, LRes.nil _, rfl, Upd.of_below hb⟩
  | some st =>
    obtain ⟨rfl, h⟩ := h
    obtain ⟨z1, z2, _⟩ := hz st rfl
    refine (rexpire_any w g B st id h (by omega) z2).mono ?_
    rintro e w' ⟨v, rfl, hv, hh, hu⟩
    exact ⟨v, rfl, hv, ⟨rfl, hh⟩, hu.some_g⟩

theorem rsell_o (t : NmT) (L : List Int) (id cl : Int) :
    Calls Tryz.prog 13 #[rv, .int .i64 id] w fun e w' =>
      ∃ v, e = .returned (.tuple #[v, .int .i64 (doO so (4, t, L, id, cl)).1.2.2]) ∧ LRes w' v (doO so (4, t, L, id, cl)).1.2.1 ∧ RO w' rv g B (doO so (4, t, L, id, cl)).2 ∧ Upd (GsB so g) w w' := by
  cases so with
  | none =>
    obtain rfl : rv = .pointer none := h
    refine (rsell_nil id w).mono ?_
    rintro e w' ⟨rfl, hb⟩
    exact ⟨_, rfl, LRes.nil _, rfl, Upd.of_below hb⟩
  | some st =>
    obtain ⟨rfl, h⟩ := h
    obtain ⟨z1, z2, _⟩ := hz st rfl
    refine (rsell_any w g B st id h (by omega) z2).mono ?_
    rintro e w' ⟨v, rfl, hv, hh, hu⟩
    exact ⟨v, rfl, hv, ⟨rfl, hh⟩, hu.some_g⟩

theorem rfree_o (k : Int) (t : NmT) (L : List Int) (id cl : Int) (h0 : k ≠ 0) (h1 : k ≠ 1) (h2 : k ≠ 2) (h3 : k ≠ 3) (h4 : k ≠ 4) :
    Calls Tryz.prog 14 #[rv, .int .i64 id] w fun e w' =>
      e = .returned (.int .i64 (doO so (k, t, L, id, cl)).1.2.2) ∧ LRes w' (.slice none 0 0) (doO so (k, t, L, id, cl)).1.2.1 ∧ RO w' rv g B (doO so (k, t, L, id, cl)).2 ∧ Upd (GsB so g) w w' := by
  cases so with
  | none =>
    obtain rfl : rv = .pointer none := h
    refine (rfreep_nil id w).mono ?_
    rintro e w' ⟨rfl, hb⟩
    refine ⟨?_, LRes.nil _, rfl, Upd.of_below hb⟩
    rw [doO_none, if_neg h3]
  | some st =>
    obtain ⟨rfl, h⟩ := h
    obtain ⟨z1, z2, _⟩ := hz st rfl
    refine (rfreep_any w g B st id h (by omega)).mono ?_
    rintro e w' ⟨rfl, hh, hu⟩
    unfold doO
    dsimp only
    rw [do_free st k t L id cl h0 h1 h2 h3 h4]
    exact ⟨rfl, LRes.nil _, ⟨rfl, hh⟩, hu.some_g⟩

theorem rspaces_o : Calls Tryz.prog 18 #[rv] w fun e w' => ∃ v, e = .returned v ∧ SRow w' 0 v (spO so) ∧ Below w.heap.size w w' := by
  cases so with
  | none =>
    obtain rfl : rv = .pointer none := h
    refine (rspaces_nil w).mono ?_
    rintro e w' ⟨rfl, hb⟩
    exact ⟨_, rfl, ⟨none, 0, rfl, fun hn => absurd hn (Nat.lt_irrefl 0)⟩, hb⟩
  | some st =>
    obtain ⟨rfl, h⟩ := h
    refine (rspaces_any w g B st h).mono ?_
    rintro e w' ⟨v, rfl, rfl, hr⟩
    exact ⟨v, rfl, hr, Below.refl _ _⟩

theorem rlist_o : Calls Tryz.prog 21 #[rv] w fun e w' => ∃ v, e = .returned v ∧ HRow w' v (opO so) ∧ Below w.heap.size w w' := by
  cases so with
  | none =>
    obtain rfl : rv = .pointer none := h
    refine (rlist_nil w).mono ?_
    rintro e w' ⟨rfl, hb⟩
    exact ⟨_, rfl, ⟨[], none, 0, rfl, rfl, fun hn => absurd hn (Nat.lt_irrefl 0), fun x hx => (by cases hx), Nat.le_refl _⟩, hb⟩
  | some st =>
    obtain ⟨rfl, h⟩ := h
    refine (rlist_any w g B st h).mono ?_
    rintro e w' ⟨v, rfl, rfl, hr⟩
    exact ⟨v, rfl, hr, Below.refl _ _⟩
end

section
variable {w : World} {hv : Value} {g M sb : Nat} {so : Option St} (h : HO w hv g M sb so) (hz : SzO 200 1000 so)
include h hz
theorem hspaces_o : Calls Tryz.prog 17 #[hv] w fun e w' => ∃ v, e = .returned v ∧ SRow w' 0 v (spO so) ∧ Below w.heap.size w w' := by
  cases so with
  | none =>
    obtain rfl : hv = .pointer none := h
    refine (hspaces_nil w).mono ?_
    rintro e w' ⟨rfl, hb⟩
    exact ⟨_, rfl, ⟨none, 0, rfl, fun hn => absurd hn (Nat.lt_irrefl 0)⟩, hb⟩
  | some st =>
    obtain ⟨rfl, h⟩ := h
    obtain ⟨z1, z2, _⟩ := hz st rfl
    refine (hs_spaces h (by omega)).mono ?_
    rintro e w' ⟨v, rfl, hb, _, hr⟩
    exact ⟨v, rfl, hr.wide (Nat.zero_le _), hb⟩

theorem hlist_o : Calls Tryz.prog 20 #[hv] w fun e w' => ∃ v, e = .returned v ∧ HRow w' v (opO so) ∧ Below w.heap.size w w' := by
  cases so with
  | none =>
    obtain rfl : hv = .pointer none := h
    refine (hlist_nil w).mono ?_
    rintro e w' ⟨rfl, hb⟩
    exact ⟨_, rfl, ⟨[], none, 0, rfl, rfl, fun hn => absurd hn (Nat.lt_irrefl 0), fun x hx => (by cases hx), Nat.le_refl _⟩, hb⟩
  | some st =>
    obtain ⟨rfl, h⟩ := h
    obtain ⟨z1, z2, _⟩ := hz st rfl
    refine (hs_list h z2).mono ?_
    rintro e w' ⟨v, rfl, hb, _, hr⟩
    exact ⟨v, rfl, hr, hb⟩
end
end Go.Proofs.YtkdbenoleendcaaGreatDoor
