/- hold: a Holds, without its parts; the lists that are kept beside it. -/
import Derived.Test.YtkdbenoleendcaaGreatDoorQHMB31

namespace Go.Proofs.YtkdbenoleendcaaGreatDoor
open Go.RowKit Go.IntWalk Go.Maps Go.WideMaps

theorem inv_len {st : St} (h : Inv st) : st.op.length ≤ st.last := by
  have h1 : (st.op.map (·.1)).Nodup := by
    have := h.ids
    refine List.pairwise_map.2 (this.imp fun h => ?_)
    omega
  have h2 : (st.op.map (·.1)).length ≤ ((List.range' 1 st.last).map Int.ofNat).length := by
    refine List.Nodup.length_le_of_subset h1 fun x hx => ?_
    obtain ⟨y, hy, e⟩ := List.mem_map.mp hx
    have hr := h.rng y hy
    refine List.mem_map.mpr ⟨x.toNat, ?_, by show ((x.toNat : Nat) : Int) = x; omega⟩
    rw [List.mem_range'_1]
    omega
  simpa using h2

def TT : Nat → Prop := fun _ => True

/-- A Holds in memory. -/
def HS (w : World) (g M sb : Nat) (st : St) : Prop := ∃ E, HoldC w TT g M sb E st

theorem HS.inv {w : World} {g M sb : Nat} {st : St} (h : HS w g M sb st) : Inv st := let ⟨_, h⟩ := h; h.inv
theorem HoldC.elen {w : World} {F : Nat → Prop} {g M sb : Nat} {E : List OwnT} {st : St} (h : HoldC w F g M sb E st) : E.length = st.op.length := by rw [← h.ops, List.length_map]

theorem HS.lt {w : World} {g M sb : Nat} {st : St} (h : HS w g M sb st) {i : Nat} (hi : Own3 g M sb i) : i < w.heap.size := by
  obtain ⟨E, h⟩ := h
  rcases hi with rfl | rfl | rfl
  · exact lt_of_block h.blk
  · obtain ⟨es, c, e⟩ := h.map_blk
    exact lt_of_block e
  · obtain ⟨arr, ha, _⟩ := h.sps
    exact lt_of_block ha

/-- A block of cells of another type is none of its own. -/
theorem HS.not_own {w : World} {g M sb : Nat} {st : St} (h : HS w g M sb st) {b : Nat} {arr : Array Value} {T : TypeId} {x : Nat × Nat} (hb : w.heap[b]? = some (.cells arr T x)) (h1 : T ≠ 56) (h2 : T ≠ 53) : ¬ Own3 g M sb b := by
  obtain ⟨E, h⟩ := h
  rintro (rfl | rfl | rfl)
  · exact type_ne h.blk hb (Ne.symm h1) rfl
  · obtain ⟨es, c, e⟩ := h.map_blk
    rw [hb] at e
    cases e
  · obtain ⟨arr2, ha2, _⟩ := h.sps
    exact type_ne ha2 hb (Ne.symm h2) rfl

theorem HS.below {w w' : World} {g M sb : Nat} {st : St} (h : HS w g M sb st) (hb : Below w.heap.size w w') : HS w' g M sb st :=
  let ⟨E, h⟩ := h; ⟨E, h.keep (T := fun _ => False) (Upd.of_below hb) (fun _ _ h => h) (fun _ _ h => h)⟩

/-- Another Holds has changed. -/
theorem HS.other {w w' : World} {g M sb g2 M2 sb2 : Nat} {st st2 : St} (h : HS w g M sb st) (k : HS w g2 M2 sb2 st2) (hu : Upd (Own3 g2 M2 sb2) w w') (hd : ∀ i, Own3 g M sb i → ¬ Own3 g2 M2 sb2 i) : HS w' g M sb st := by
  obtain ⟨E, h⟩ := h
  refine ⟨E, ?_⟩
  have hp : ∀ x ∈ E, PlAt w' TT x := fun x hx => by
    obtain ⟨b, e, hb, arr, ha, hr⟩ := h.pls x hx
    exact ⟨b, e, hb, arr, (hu.block b (lt_of_block ha) (k.not_own ha (by decide) (by decide))).trans ha, hr⟩
  refine ⟨(hu.block g (lt_of_block h.blk) (hd g (Or.inl rfl))).trans h.blk, ?_, ?_, h.ops, hp, h.inv⟩
  · obtain ⟨es, c, e, r⟩ := h.map
    exact ⟨es, c, (hu.block M (lt_of_block e) (hd M (Or.inr (Or.inl rfl)))).trans e, r⟩
  · obtain ⟨arr, ha, r⟩ := h.sps
    exact ⟨arr, (hu.block sb (lt_of_block ha) (hd sb (Or.inr (Or.inr rfl)))).trans ha, r⟩

/-- A list of numbers that an operation hands back. -/
def LRes (w : World) (v : Value) (L : List Int) : Prop := (L = [] ∧ v = .slice none 0 0) ∨ ∃ b c, v = .slice (some ⟨b, 0, none⟩) L.length c ∧ IntRow w b 3 L

theorem LRes.nil (w : World) : LRes w (.slice none 0 0) [] := Or.inl ⟨rfl, rfl⟩
theorem PlRes.lres {w : World} {F : Nat → Prop} {v : Value} {L : List Int} (h : PlRes w F v L) : LRes w v L := by
  rcases h with h | ⟨b, c, e, _, hr⟩
  · exact Or.inl h
  · exact Or.inr ⟨b, c, e, hr⟩
theorem LRes.of_own {w : World} {B n : Nat} {v : Value} {L : List Int} (h : w.ownsRow B 3 1 v n (L.map (Value.int .i64))) : LRes w v L := by
  have hlen : L.length = n := by have := h.1; simpa using this
  rcases Nat.eq_zero_or_pos n with h0 | h0
  · have hL : L = [] := List.length_eq_zero_iff.mp (by omega)
    subst hL
    rcases h.2 with ⟨rfl, _⟩ | ⟨g, cap, cur, rfl, _, hg, _⟩
    · exact LRes.nil w
    · exact Or.inr ⟨g, cap, by rw [h0]; rfl, cur, hg, by simp, fun k hk => by simp at hk⟩
  · obtain ⟨g, c, rfl, _, hr⟩ := IntRow.of_row h0 h
    exact Or.inr ⟨g, c, by rw [hlen], hr⟩
theorem LRes.ints {w : World} {v : Value} {L : List Int} (h : LRes w v L) : ∃ pa pc, v = .slice pa L.length pc ∧ Ints w pa L.length L := by
  rcases h with ⟨rfl, rfl⟩ | ⟨b, c, rfl, hr⟩
  · exact ⟨none, 0, rfl, rfl, fun k hk => by simp at hk⟩
  · exact ⟨_, c, rfl, rfl, fun k hk => ⟨b, 0, rfl, by rw [Nat.zero_add]; exact hr.cell k hk⟩⟩
theorem LRes.below {w w' : World} {v : Value} {L : List Int} (h : LRes w v L) (hb : Below w.heap.size w w') : LRes w' v L := by
  rcases h with h | ⟨b, c, e, hr⟩
  · exact Or.inl h
  · exact Or.inr ⟨b, c, e, hr.keep (T := fun _ => False) (Upd.of_below hb) (fun h => h)⟩
theorem LRes.keep {w w' : World} {v : Value} {L : List Int} (h : LRes w v L) {g M sb : Nat} {st : St} (hs : HS w g M sb st) (hu : Upd (Own3 g M sb) w w') : LRes w' v L := by
  rcases h with h | ⟨b, c, e, hr⟩
  · exact Or.inl h
  · obtain ⟨arr, ha, r⟩ := hr
    exact Or.inr ⟨b, c, e, IntRow.keep ⟨arr, ha, r⟩ hu (hs.not_own ha (by decide) (by decide))⟩

/-- A list of open holds that was handed back. -/
def HRow (w : World) (v : Value) (op : List HoldT) : Prop :=
  ∃ E la c, v = .slice la E.length c ∧ E.map (·.1) = op ∧ (0 < E.length → ∃ b, la = some ⟨b, 0, none⟩ ∧ RecRow OwnE w b 51 E) ∧ (∀ x ∈ E, PlAt w TT x) ∧ E.length ≤ c

theorem HRow.below {w w' : World} {v : Value} {op : List HoldT} (h : HRow w v op) (hb : Below w.heap.size w w') : HRow w' v op := by
  obtain ⟨E, la, c, e, ho, hr, hp, hc⟩ := h
  exact ⟨E, la, c, e, ho, fun hn => let ⟨b, e, r⟩ := hr hn; ⟨b, e, r.below hb⟩, fun x hx => (hp x hx).keep (T := fun _ => False) (Upd.of_below hb) (fun _ _ h => h), hc⟩
theorem HRow.keep {w w' : World} {v : Value} {op : List HoldT} (h : HRow w v op) {g M sb : Nat} {st : St} (hs : HS w g M sb st) (hu : Upd (Own3 g M sb) w w') : HRow w' v op := by
  obtain ⟨E, la, c, e, ho, hr, hp, hc⟩ := h
  refine ⟨E, la, c, e, ho, fun hn => ?_, fun x hx => ?_, hc⟩
  · obtain ⟨b, e, arr, ha, r⟩ := hr hn
    exact ⟨b, e, arr, (hu.block b (lt_of_block ha) (hs.not_own ha (by decide) (by decide))).trans ha, r⟩
  · obtain ⟨b, e, hb, arr, ha, r⟩ := hp x hx
    exact ⟨b, e, hb, arr, (hu.block b (lt_of_block ha) (hs.not_own ha (by decide) (by decide))).trans ha, r⟩

/-- A list of states that was handed back. -/
def SRow (w : World) (B : Nat) (v : Value) (sp : List SpT) : Prop :=
  ∃ la c, v = .slice la sp.length c ∧ (0 < sp.length → ∃ b, la = some ⟨b, 0, none⟩ ∧ B ≤ b ∧ RecRow SpE w b 53 sp)
theorem SRow.recs {w : World} {B : Nat} {v : Value} {sp : List SpT} (h : SRow w B v sp) : ∃ la c, v = .slice la sp.length c ∧ Recs SpE w la sp.length sp := by
  obtain ⟨la, c, e, hr⟩ := h
  refine ⟨la, c, e, rfl, fun i hi => ?_⟩
  obtain ⟨b, e, _, r⟩ := hr (by omega)
  exact ⟨b, 0, e, fun j hj => by rw [Nat.zero_add]; exact r.cell i j hi hj⟩
theorem SRow.below {w w' : World} {B : Nat} {v : Value} {sp : List SpT} (h : SRow w B v sp) (hb : Below w.heap.size w w') : SRow w' B v sp := by
  obtain ⟨la, c, e, hr⟩ := h
  exact ⟨la, c, e, fun hn => let ⟨b, e, hl, r⟩ := hr hn; ⟨b, e, hl, r.below hb⟩⟩
theorem SRow.keep {w w' : World} {B : Nat} {v : Value} {sp : List SpT} (h : SRow w B v sp) {T : Nat → Prop} (hd : ∀ i, T i → i < B) (hu : Upd T w w') : SRow w' B v sp := by
  obtain ⟨la, c, e, hr⟩ := h
  refine ⟨la, c, e, fun hn => ?_⟩
  obtain ⟨b, e, hl, arr, ha, r⟩ := hr hn
  exact ⟨b, e, hl, arr, (hu.block b (lt_of_block ha) (fun h => by have := hd b h; omega)).trans ha, r⟩
theorem SRow.wide {w : World} {A B : Nat} {v : Value} {sp : List SpT} (h : SRow w B v sp) (hab : A ≤ B) : SRow w A v sp := by
  obtain ⟨la, c, e, hr⟩ := h
  exact ⟨la, c, e, fun hn => let ⟨b, e, hl, r⟩ := hr hn; ⟨b, e, by omega, r⟩⟩

/-! ### The operations, without the parts -/
theorem hs_new (w : World) (n : Nat) (hn : n ≤ 4000) : Calls Tryz.prog 6 #[.int .i64 n] w fun e w' => ∃ g M sb, e = .returned (.pointer (some ⟨g, 0, none⟩)) ∧ Below w.heap.size w w' ∧ HS w' g M sb (newS n) ∧ ∀ i, Own3 g M sb i → w.heap.size ≤ i := by
  refine (new_any w TT n).mono ?_
  rintro e w' ⟨hb, h⟩
  rw [if_pos (by omega), Int.toNat_natCast] at h
  obtain ⟨g, M, sb, e, hh, ho⟩ := h
  exact ⟨g, M, sb, e, hb, ⟨_, hh⟩, ho⟩

theorem hs_spaces {w : World} {g M sb : Nat} {st : St} (h : HS w g M sb st) (hsp : st.sp.length ≤ 4000) :
    Calls Tryz.prog 17 #[.pointer (some ⟨g, 0, none⟩)] w fun e w' => ∃ v, e = .returned v ∧ Below w.heap.size w w' ∧ HS w' g M sb st ∧ SRow w' w.heap.size v st.sp := by
  obtain ⟨E, h⟩ := h
  refine (spaces_any w TT g M sb E st h hsp).mono ?_
  rintro e w' ⟨v, rfl, ⟨la, c, e, ho⟩, hh, hb⟩
  exact ⟨v, rfl, hb, ⟨E, hh⟩, la, c, e, ho.2⟩

theorem OwnRecs.cap {α : Type} {k : Nat} {E : Enc α k} {w : World} {B : Nat} {T : TypeId} {la : Option Addr} {n : Nat} {xs : List α} (h : OwnRecs E w B T la n xs) : xs.length = n := h.1

theorem hs_list {w : World} {g M sb : Nat} {st : St} (h : HS w g M sb st) (hl : st.last ≤ 1000) :
    Calls Tryz.prog 20 #[.pointer (some ⟨g, 0, none⟩)] w fun e w' => ∃ v, e = .returned v ∧ Below w.heap.size w w' ∧ HS w' g M sb st ∧ HRow w' v st.op := by
  obtain ⟨E, h⟩ := h
  have hlen := inv_len h.inv
  refine (list_any w TT g M sb E st h (by rw [h.elen]; omega) (by omega)).mono ?_
  rintro e w' ⟨v, rfl, ⟨la, c, e, ho, hc⟩, hh, hb⟩
  exact ⟨v, rfl, hb, ⟨E, hh⟩, E, la, c, e, h.ops, fun hn => let ⟨b, e, _, r⟩ := ho.2 hn; ⟨b, e, r⟩, hh.pls, hc⟩

theorem hs_release {w : World} {g M sb : Nat} {st : St} (h : HS w g M sb st) (id : Int) (hw : (Lit.int .i64 id).wf = true) :
    Calls Tryz.prog 27 #[.pointer (some ⟨g, 0, none⟩), .int .i64 id] w fun e w' => e = .returned (.int .i64 (endS st id (0, 0)).1.2) ∧ HS w' g M sb (endS st id (0, 0)).2 ∧ Upd (Own3 g M sb) w w' := by
  obtain ⟨E, h⟩ := h
  refine (release_any w TT g M sb E st id h hw).mono ?_
  rintro e w' ⟨E', rfl, hh, hu⟩
  exact ⟨rfl, ⟨E', hh⟩, hu⟩

theorem hs_sell {w : World} {g M sb : Nat} {st : St} (h : HS w g M sb st) (id : Int) (hw : (Lit.int .i64 id).wf = true) :
    Calls Tryz.prog 25 #[.pointer (some ⟨g, 0, none⟩), .int .i64 id] w fun e w' => ∃ v, e = .returned (.tuple #[v, .int .i64 (endS st id (2, id)).1.2]) ∧ LRes w' v (endS st id (2, id)).1.1 ∧ HS w' g M sb (endS st id (2, id)).2 ∧ Upd (Own3 g M sb) w w' := by
  obtain ⟨E, h⟩ := h
  refine (sell_any w TT g M sb E st id h hw).mono ?_
  rintro e w' ⟨v, E', rfl, hv, hh, hu⟩
  exact ⟨v, rfl, hv.lres, ⟨E', hh⟩, hu⟩

theorem hs_free {w : World} {g M sb : Nat} {st : St} (h : HS w g M sb st) (p : Int) :
    Calls Tryz.prog 26 #[.pointer (some ⟨g, 0, none⟩), .int .i64 p] w fun e w' => e = .returned (.int .i64 (freeS st p).1) ∧ HS w' g M sb (freeS st p).2 ∧ Upd (Own3 g M sb) w w' := by
  obtain ⟨E, h⟩ := h
  refine (free_any w TT g M sb E st p h).mono ?_
  rintro e w' ⟨E', rfl, hh, hu⟩
  exact ⟨rfl, ⟨E', hh⟩, hu⟩

theorem hs_expire {w : World} {g M sb : Nat} {st : St} (h : HS w g M sb st) (hl : st.last ≤ 1000) (now : Int) :
    Calls Tryz.prog 24 #[.pointer (some ⟨g, 0, none⟩), .int .i64 now] w fun e w' => ∃ v, e = .returned v ∧ LRes w' v (expireS st now).1 ∧ HS w' g M sb (expireS st now).2 ∧ Upd (Own3 g M sb) w w' := by
  obtain ⟨E, h⟩ := h
  have hlen := inv_len h.inv
  refine (expire_any w TT g M sb E st now h (by rw [h.elen]; omega) (by omega)).mono ?_
  rintro e w' ⟨v, E', rfl, hr, hh, hu⟩
  exact ⟨v, rfl, LRes.of_own hr, ⟨E', hh⟩, hu⟩

theorem hs_take {w : World} {g M sb : Nat} {st : St} (h : HS w g M sb st) (hsp : st.sp.length ≤ 4000) (hl : st.last ≤ 1000) (t : List UInt8) (l : List Int) (pa : Option Addr) (m mc : Nat) (til cls : Int) (hm : m ≤ 4000) (hlen : t.length ≤ 1000)
    (hL : ∀ wx, Upd (Own3 g M sb) w wx → Ints wx pa m l) :
    Calls Tryz.prog 22 #[.pointer (some ⟨g, 0, none⟩), .string (bs t), .slice pa m mc, .int .i64 til, .int .i64 cls] w fun e w' =>
      e = .returned (.tuple #[.int .i64 (takeS st (nameS t) t l til cls).1.1, .int .i64 (takeS st (nameS t) t l til cls).1.2]) ∧ HS w' g M sb (takeS st (nameS t) t l til cls).2 ∧ Upd (Own3 g M sb) w w' := by
  obtain ⟨E, h⟩ := h
  refine (take_any w TT g M sb E st t l pa m mc til cls h hsp (by omega) hm hlen (fun _ _ => trivial) hL).mono ?_
  rintro e w' ⟨E', rfl, hh, hu⟩
  exact ⟨rfl, ⟨E', hh⟩, hu⟩

theorem hs_swap {w : World} {g M sb : Nat} {st : St} (h : HS w g M sb st) (hsp : st.sp.length ≤ 4000) (hl : st.last ≤ 1000) (id : Int) (hw : (Lit.int .i64 id).wf = true) (l : List Int) (pa : Option Addr) (m mc : Nat) (hm : m ≤ 4000)
    (hL : ∀ wx, Upd (Own3 g M sb) w wx → Ints wx pa m l) :
    Calls Tryz.prog 23 #[.pointer (some ⟨g, 0, none⟩), .int .i64 id, .slice pa m mc] w fun e w' => e = .returned (.int .i64 (swapS st id l).1) ∧ HS w' g M sb (swapS st id l).2 ∧ Upd (Own3 g M sb) w w' := by
  obtain ⟨E, h⟩ := h
  have hlen := inv_len h.inv
  refine (swap_any w TT g M sb E st id l pa m mc h hw hsp (by omega) hm (by rw [h.elen]; omega) (fun _ _ => trivial) hL).mono ?_
  rintro e w' ⟨E', rfl, hh, hu⟩
  exact ⟨rfl, ⟨E', hh⟩, hu⟩
end Go.Proofs.YtkdbenoleendcaaGreatDoor
