/- foyerref26: a Holds of the reference in memory; New, free, find. -/
import Derived.Test.YtkdbenoleendcaaGreatDoorQHMB36
import Derived.ArgAppend
import Derived.Deep.AppendLies

namespace Go.Proofs.YtkdbenoleendcaaGreatDoor
open Go.RowKit Go.IntWalk Go.Maps Go.WideMaps

/-- The states of the reference's places. -/
def SpsL (w : World) (sa : Option Addr) (sp : List SpT) : Prop := 0 < sp.length → ∃ b, sa = some ⟨b, 0, none⟩ ∧ RecRow SpE w b 53 sp

theorem SpsL.recs {w : World} {sa : Option Addr} {sp : List SpT} (h : SpsL w sa sp) : Recs SpE w sa sp.length sp := by
  refine ⟨rfl, fun i hi => ?_⟩
  obtain ⟨b, e, r⟩ := h (by omega)
  exact ⟨b, 0, e, fun j hj => by rw [Nat.zero_add]; exact r.cell i j hi hj⟩

/-- A Holds of the reference. -/
structure RefC (w : World) (g : Nat) (oa : Option Addr) (oc : Nat) (sa : Option Addr) (sc : Nat) (E : List OwnT) (st : St) : Prop where
  blk : w.heap[g]? = some (.cells #[.slice oa st.op.length oc, .slice sa st.sp.length sc, .int .i64 st.last] 58 (0, 0))
  opn : HLst w oa E
  ops : E.map (·.1) = st.op
  sps : SpsL w sa st.sp
  cap : st.op.length ≤ oc

def Gb (g : Nat) (i : Nat) : Prop := i = g

section
variable {w w' : World} {g : Nat} {oa sa : Option Addr} {oc sc : Nat} {E : List OwnT} {st : St}

theorem HLst.upd {la : Option Addr} {E : List OwnT} (h : HLst w la E) {T : Nat → Prop} (hu : Upd T w w') (hT : ∀ (b : Nat) (arr : Array Value) (ty : TypeId) (x : Nat × Nat), w.heap[b]? = some (.cells arr ty x) → (ty = 51 ∨ ty = 3) → ¬ T b) : HLst w' la E := by
  refine ⟨fun hn => ?_, fun x hx => ?_⟩
  · obtain ⟨b, e, arr, ha, r⟩ := h.1 hn
    exact ⟨b, e, arr, (hu.block b (lt_of_block ha) (hT b arr _ _ ha (Or.inl rfl))).trans ha, r⟩
  · obtain ⟨b, e, hb, arr, ha, r⟩ := h.2 x hx
    exact ⟨b, e, hb, arr, (hu.block b (lt_of_block ha) (hT b arr _ _ ha (Or.inr rfl))).trans ha, r⟩

theorem RefC.not_g (h : RefC w g oa oc sa sc E st) {b : Nat} {arr : Array Value} {T : TypeId} {x : Nat × Nat} (hb : w.heap[b]? = some (.cells arr T x)) (h1 : T ≠ 58) : ¬ Gb g b := fun e => by
  unfold Gb at e
  subst e
  exact type_ne h.blk hb (Ne.symm h1) rfl

theorem SpsL.upd {sp : List SpT} (h : SpsL w sa sp) {T : Nat → Prop} (hu : Upd T w w') (hT : ∀ (b : Nat) (arr : Array Value) (x : Nat × Nat), w.heap[b]? = some (.cells arr 53 x) → ¬ T b) : SpsL w' sa sp := fun hn => by
  obtain ⟨b, e, arr, ha, r⟩ := h hn
  exact ⟨b, e, arr, (hu.block b (lt_of_block ha) (hT b arr _ ha)).trans ha, r⟩

theorem RefC.below (h : RefC w g oa oc sa sc E st) (hb : Below w.heap.size w w') : RefC w' g oa oc sa sc E st :=
  ⟨(hb.block g (lt_of_block h.blk)).trans h.blk, h.opn.below hb, h.ops, h.sps.upd (T := fun _ => False) (Upd.of_below hb) (fun _ _ _ _ h => h), h.cap⟩

theorem RefC.elen (h : RefC w g oa oc sa sc E st) : E.length = st.op.length := by rw [← h.ops, List.length_map]

theorem RefC.c0 (h : RefC w g oa oc sa sc E st) : w.cell? ⟨g, 0, none⟩ = some (.slice oa st.op.length oc) := cell_of_row (j := 0) _ _ _ _ _ h.blk
theorem RefC.c1 (h : RefC w g oa oc sa sc E st) : w.cell? ⟨g, 1, none⟩ = some (.slice sa st.sp.length sc) := cell_of_row (j := 1) _ _ _ _ _ h.blk
theorem RefC.c2 (h : RefC w g oa oc sa sc E st) : w.cell? ⟨g, 2, none⟩ = some (.int .i64 st.last) := cell_of_row (j := 2) _ _ _ _ _ h.blk
theorem RefC.fr (h : RefC w g oa oc sa sc E st) (j : Nat) : w.frozen? ⟨g, j, none⟩ = false := by simp only [World.frozen?, h.blk]; simp
end

/-- A Holds of the reference, without its parts; its places lie behind B. -/
def RS (w : World) (g B : Nat) (st : St) : Prop := B ≤ w.heap.size ∧ Inv st ∧ ∃ oa oc sa sc E, RefC w g oa oc sa sc E st ∧ ∀ b o, sa = some ⟨b, o, none⟩ → B ≤ b

theorem RS.below {w w' : World} {g B : Nat} {st : St} (h : RS w g B st) (hb : Below w.heap.size w w') : RS w' g B st := by
  obtain ⟨hw, hi, oa, oc, sa, sc, E, h, hs⟩ := h
  exact ⟨Nat.le_trans hw hb.size, hi, oa, oc, sa, sc, E, h.below hb, hs⟩
theorem RS.inv {w : World} {g B : Nat} {st : St} (h : RS w g B st) : Inv st := h.2.1

/-- What New of the reference returns. -/
def RNewPost (n : Int) (w : World) (e : Ending) (w' : World) : Prop :=
  Below w.heap.size w w' ∧ if 0 ≤ n ∧ n ≤ 4000 then ∃ g, e = .returned (.pointer (some ⟨g, 0, none⟩)) ∧ RS w' g w.heap.size (newS n.toNat) ∧ w.heap.size ≤ g else e = .returned (.pointer none)

theorem rnew_any (w : World) (n : Int) : Calls Tryz.prog 7 #[.int .i64 n] w (RNewPost n w) := by
  by_cases h0 : n < 0
  · go_enter Tryz.func7, Tryz.ntmps7
    go_wp2_with fail
    go_ret
    exact ⟨Below.refl _ _, by rw [if_neg (by omega)]; rfl⟩
  by_cases h1 : 4000 < n
  · go_enter Tryz.func7, Tryz.ntmps7
    go_wp2_with fail
    go_ret
    exact ⟨Below.refl _ _, by rw [if_neg (by omega)]; rfl⟩
  obtain ⟨k, rfl⟩ : ∃ k : Nat, n = k := ⟨n.toNat, by omega⟩
  obtain ⟨arr, hs, hz, hmk⟩ := make_spaces k (by omega)
  have HB : Hid (Below w.heap.size w ((w.alloc (.cells arr 53)).alloc (.cells #[.slice none 0 0, .slice (some ⟨w.heap.size, 0, none⟩) k k, .int .i64 0] 58))) :=
    (Joins.below_alloc1 w _).alloc (by simp) _
  have HH : Hid (RefC ((w.alloc (.cells arr 53)).alloc (.cells #[.slice none 0 0, .slice (some ⟨w.heap.size, 0, none⟩) k k, .int .i64 0] 58)) (w.heap.size + 1) none 0 (some ⟨w.heap.size, 0, none⟩) k [] (newS k)) := by
    refine ⟨?_, ⟨fun hn => absurd hn (by simp), fun x hx => by simp at hx⟩, rfl, fun _ => ⟨_, rfl, ?_⟩, Nat.le_refl _⟩
    · have := World.alloc_heap_new (w.alloc (.cells arr 53)) (.cells #[.slice none 0 0, .slice (some ⟨w.heap.size, 0, none⟩) k k, .int .i64 0] 58)
      simpa [newS] using this
    · have := (SpRow.made (w := w) (T := 53) hs hz).below (Joins.below_alloc1 _ (.cells #[.slice none 0 0, .slice (some ⟨w.heap.size, 0, none⟩) k k, .int .i64 0] 58))
      simpa [newS] using this
  clear hs hz
  go_enter Tryz.func7, Tryz.ntmps7
  go_wp2_with fail
  go_ret
  refine ⟨HB.out, ?_⟩
  rw [if_pos (by omega), Int.toNat_natCast]
  exact ⟨w.heap.size + 1, rfl, ⟨HB.out.size, new_inv k, _, _, _, _, _, HH.out, fun b o e => by cases e; exact Nat.le_refl _⟩, by omega⟩
end Go.Proofs.YtkdbenoleendcaaGreatDoor
