/- hold: lists of open holds, where each lies. -/
import Derived.Test.YtkdbenoleendcaaGreatDoorQHMB35

namespace Go.Proofs.YtkdbenoleendcaaGreatDoor
open Go.RowKit Go.IntWalk Go.Maps Go.WideMaps

/-- A list of open holds, where each lies. -/
def HLst (w : World) (la : Option Addr) (E : List OwnT) : Prop :=
  (0 < E.length → ∃ b, la = some ⟨b, 0, none⟩ ∧ RecRow OwnE w b 51 E) ∧ ∀ x ∈ E, PlAt w TT x

theorem HRow.lst {w : World} {v : Value} {op : List HoldT} (h : HRow w v op) : ∃ E la c, v = .slice la E.length c ∧ E.map (·.1) = op ∧ HLst w la E ∧ E.length ≤ c :=
  let ⟨E, la, c, e, ho, hr, hp, hc⟩ := h; ⟨E, la, c, e, ho, ⟨hr, hp⟩, hc⟩
theorem HLst.below {w w' : World} {la : Option Addr} {E : List OwnT} (h : HLst w la E) (hb : Below w.heap.size w w') : HLst w' la E :=
  ⟨fun hn => let ⟨b, e, r⟩ := h.1 hn; ⟨b, e, r.below hb⟩, fun x hx => (h.2 x hx).keep (T := fun _ => False) (Upd.of_below hb) (fun _ _ h => h)⟩
theorem HLst.keep {w w' : World} {la : Option Addr} {E : List OwnT} (h : HLst w la E) {g M sb : Nat} {st : St} (hs : HS w g M sb st) (hu : Upd (Own3 g M sb) w w') : HLst w' la E := by
  refine ⟨fun hn => ?_, fun x hx => ?_⟩
  · obtain ⟨b, e, arr, ha, r⟩ := h.1 hn
    exact ⟨b, e, arr, (hu.block b (lt_of_block ha) (hs.not_own ha (by decide) (by decide))).trans ha, r⟩
  · obtain ⟨b, e, hb, arr, ha, r⟩ := h.2 x hx
    exact ⟨b, e, hb, arr, (hu.block b (lt_of_block ha) (hs.not_own ha (by decide) (by decide))).trans ha, r⟩
theorem HLst.recs {w : World} {la : Option Addr} {E : List OwnT} (h : HLst w la E) : Recs OwnE w la E.length E := by
  refine ⟨rfl, fun i hi => ?_⟩
  obtain ⟨b, e, r⟩ := h.1 (by omega)
  exact ⟨b, 0, e, fun j hj => by rw [Nat.zero_add]; exact r.cell i j hi hj⟩
theorem HLst.pl {w : World} {la : Option Addr} {E : List OwnT} (h : HLst w la E) (hp : ∀ x ∈ E, x.1.2.2.1.length ≤ 4000) : ∀ x ∈ E, PlIn w x := fun x hx => by
  obtain ⟨b, e, _, r⟩ := h.2 x hx
  refine ⟨hp x hx, ?_⟩
  rw [e]
  exact r.ints

theorem HLst.row {w : World} {la : Option Addr} {E : List OwnT} {op : List HoldT} {m c : Nat} (h : HLst w la E) (he : E.map (·.1) = op) (hm : E.length = m) (hc : m ≤ c) : HRow w (.slice la m c) op :=
  ⟨E, la, c, by rw [hm], he, h.1, h.2, by omega⟩

theorem recs_take {w : World} {la : Option Addr} {n : Nat} {E : List OwnT} (h : Recs OwnE w la n E) (i : Nat) (hi : i ≤ n) : Recs OwnE w la i (E.take i) := by
  have hl := h.1
  refine ⟨by simp; omega, fun k hk => ?_⟩
  obtain ⟨b, o, e, c⟩ := h.2 k (by omega)
  refine ⟨b, o, e, fun j hj => ?_⟩
  rw [c j hj, rc_eq _ _ (by omega), rc_eq _ _ (by simp; omega), List.getElem_take]

theorem recs_drop {w : World} {b o : Nat} {n : Nat} {E : List OwnT} (h : Recs OwnE w (some ⟨b, o, none⟩) n E) (i : Nat) (hi : i ≤ n) : Recs OwnE w (some ⟨b, o + i * 6, none⟩) (n - i) (E.drop i) := by
  have hl := h.1
  refine ⟨by simp; omega, fun k hk => ⟨b, o + i * 6, rfl, fun j hj => ?_⟩⟩
  obtain ⟨b', o', e, c⟩ := h.2 (i + k) (by omega)
  cases e
  have := c j hj
  rw [show o + (i + k) * 6 + j = o + i * 6 + k * 6 + j from by omega] at this
  rw [this, rc_eq _ _ (by omega), rc_eq _ _ (by simp; omega), List.getElem_drop]

theorem recs_nil {w : World} {la : Option Addr} : Recs OwnE w la 0 [] := ⟨rfl, fun i hi => by omega⟩

theorem setPl_parts {st : St} (hi : Inv st) {i : Nat} (h : i < st.op.length) (l : List Int) :
    (setPl st.op (st.op[i]).1 l).take i = st.op.take i ∧ (setPl st.op (st.op[i]).1 l).drop (i + 1) = st.op.drop (i + 1) ∧ (setPl st.op (st.op[i]).1 l)[i]? = some ((st.op[i]).1, (st.op[i]).2.1, l, (st.op[i]).2.2.2) := by
  rw [setPl_set hi h]
  refine ⟨?_, ?_, ?_⟩
  · rw [List.take_set_of_le (Nat.le_refl _)]
  · rw [List.drop_set_of_lt (Nat.lt_succ_self _)]
  · rw [List.getElem?_set_self h]

theorem map_take {E : List OwnT} {op : List HoldT} (h : E.map (·.1) = op) (i : Nat) : (E.take i).map (·.1) = op.take i := by rw [← h, List.map_take]
theorem map_drop {E : List OwnT} {op : List HoldT} (h : E.map (·.1) = op) (i : Nat) : (E.drop i).map (·.1) = op.drop i := by rw [← h, List.map_drop]
theorem map_at {E : List OwnT} {op : List HoldT} (h : E.map (·.1) = op) {i : Nat} {x : HoldT} (hi : i < E.length) (hx : op[i]? = some x) : E[i].1 = x := by
  rw [← h, List.getElem?_map, List.getElem?_eq_getElem hi] at hx
  simpa using hx

theorem wrap_next {i m : Nat} (h : i < m) (hm : m ≤ 40) : IntKind.i64.wrap ((i : Int) + 1) = (i : Int) + 1 := i64_in _ (by omega)

theorem recs_rest {w : World} {b o n c : Nat} {E : List OwnT} (h : Recs OwnE w (some ⟨b, o, none⟩) n E) (i : Nat) (hi : i ≤ n) (hc : n ≤ c) : Recs OwnE w (if c = i then some ⟨b, o, none⟩ else some ⟨b, o + i * 6, none⟩) (n - i) (E.drop i) := by
  by_cases e : c = i
  · rw [if_pos e]
    have hn : n = i := by omega
    have hl := h.1
    rw [show n - i = 0 from by omega, List.drop_of_length_le (by omega)]
    exact recs_nil
  · rw [if_neg e]
    exact recs_drop h i hi

/-- The hold with its old places, as a slice of one. -/
theorem one_back {w : World} {b : Nat} {id : Int} {nm' : NmT} {L : List Int} {til cls : Int} {xa : Option Addr} {xc : Nat} {ei : OwnT} (h : w.heap[b]? = some (.cells #[.int .i64 id, .string (bs nm'), .int .i64 0, .slice xa L.length xc, .int .i64 til, .int .i64 cls] 51 (0, 0)))
    (h1 : ei = (ei.1, xa, xc)) (h2 : ei.1 = (id, nm', L, til, cls)) : Recs OwnE w (some ⟨b, 0, none⟩) 1 [ei] := by
  rw [h1, h2]
  refine ⟨rfl, fun i hi => ⟨b, 0, rfl, fun j hj => ?_⟩⟩
  have h0 : i = 0 := by omega
  subst h0
  rw [rc_eq _ _ (by simp), cell_of_row _ _ _ _ _ _ h]
  have : j = 0 ∨ j = 1 ∨ j = 2 ∨ j = 3 ∨ j = 4 ∨ j = 5 := by omega
  rcases this with rfl | rfl | rfl | rfl | rfl | rfl <;> rfl

theorem one_at {w : World} {b o : Nat} {E : List OwnT} (h : HLst w (some ⟨b, o, none⟩) E) {i : Nat} {ei : OwnT} (hi : E[i]? = some ei) : Recs OwnE w (some ⟨b, o + i * 6, none⟩) 1 [ei] := by
  obtain ⟨hiE, rfl⟩ := List.getElem?_eq_some_iff.mp hi
  refine ⟨rfl, fun j hj => ⟨b, o + i * 6, rfl, fun k hk => ?_⟩⟩
  obtain ⟨b', o', e', c⟩ := h.recs.2 i hiE
  cases e'
  have h0 : j = 0 := by omega
  subst h0
  have := c k hk
  rw [rc_eq _ _ (by simp)]
  rw [rc_eq _ _ hiE] at this
  simpa using this

end Go.Proofs.YtkdbenoleendcaaGreatDoor
