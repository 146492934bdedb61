/- A map from integers to integers as a stack: what a look-up, a new key and the striking of the last one do; foyerref22.Valid; A block of cells that holds bools. -/
import Derived.Test.YthabgljdndbphaaGreatDoorQPKB09
import Derived.Test.YthabgljdndbphaaGreatDoorQPKB10
import Derived.MapKept

set_option linter.unusedVariables false
set_option linter.unusedSimpArgs false
namespace Go.Proofs.YthabgljdndbphaaGreatDoor
open Go.RowKit

/-- The block b is a map that holds these pairs, in this order. -/
def IMap (w : World) (b : Nat) (es : List (Int × Int)) : Prop :=
 ∃ arr clock, w.heap[b]? = some (.map arr clock) ∧ arr.toList.map (fun e => (e.key, e.val)) = es.map (fun p => (Value.int .i64 p.1, Value.int .i64 p.2))

theorem IMap.below {w w' : World} {b : Nat} {es : List (Int × Int)} (h : IMap w b es) (hb : Below w.heap.size w w') : IMap w' b es := by
 obtain ⟨arr, clock, h1, h2⟩ := h
 exact ⟨arr, clock, by rw [hb.block b (lt_of_block h1)]; exact h1, h2⟩

theorem IMap.of_heap {w w' : World} {b : Nat} {es : List (Int × Int)} (h : IMap w b es) (e : w'.heap[b]? = w.heap[b]?) : IMap w' b es := by
 obtain ⟨arr, clock, h1, h2⟩ := h
 exact ⟨arr, clock, by rw [e]; exact h1, h2⟩

/-- What is found for a key: where, and the value. -/
def findI (k : Int) : List (Int × Int) → Nat → Option (Nat × Int)
 | [], _ => none
 | p :: es, i => if p.1 = k then some (i, p.2) else findI k es (i + 1)

theorem findNow_ints (k : Int) : ∀ (es : List (Int × Int)) (l : List MapEntry) (i : Nat), l.map (fun e => (e.key, e.val)) = es.map (fun p => (Value.int .i64 p.1, Value.int .i64 p.2)) →
  Instr.findNow (.int .i64) (.int .i64 k) l i = some ((findI k es i).map fun q => (q.1, Value.int .i64 q.2)) := by
 intro es
 induction es with
 | nil => intro l i h; simp at h; subst h; rfl
 | cons p es ih =>
  intro l i h
  cases l with
  | nil => simp at h
  | cons e l =>
   simp only [List.map_cons, List.cons.injEq, Prod.mk.injEq] at h
   obtain ⟨⟨h1, h2⟩, h3⟩ := h
   rw [Instr.findNow, h1, findI]
   by_cases e1 : p.1 = k
   ·
    rw [if_pos e1]
    simp [Instr.sameNow, e1, h2]
   ·
    rw [if_neg e1]
    have e2 : (k == p.1) = false := by simp; exact fun h => e1 h.symm
    simp [Instr.sameNow, e2, ih l (i + 1) h3]

theorem lookup_run {w : World} {b : Nat} {es : List (Int × Int)} (h : IMap w b es) (k : Int) (ok : Bool) :
  (Instr.lookup 79 (.map (some b)) (.int .i64 k) ok).run Tryz.prog w =
   .ok (if ok then .tuple #[.int .i64 (((findI k es 0).map Prod.snd).getD 0), .bool (findI k es 0).isSome] else .int .i64 (((findI k es 0).map Prod.snd).getD 0)) w := by
 obtain ⟨arr, clock, h1, h2⟩ := h
 have hz : (zeroValue 3).run Tryz.prog w = .ok (.int .i64 0) w := Tryz.zeroValue3 w
 have hf := MapKept.run_findKey (w := w) Tryz.underlying3 (findNow_ints k es arr.toList 0 h2)
 have hk : MapKept.IsKey (.int .i64) (.int .i64 k) := by exact rfl
 have hc := MapKept.run_checkKey (w := w) Tryz.underlying3 hk arr.isEmpty 9999
 cases hq : findI k es 0 with
 | none =>
  rw [hq] at hf
  simp [Instr.lookup, run_underlying Tryz.underlying79, MapKept.run_getObj_map h1, hc, hf, hz, Result.andThen]
 | some q =>
  rw [hq] at hf
  simp [Instr.lookup, run_underlying Tryz.underlying79, MapKept.run_getObj_map h1, hc, hf, Result.andThen]

theorem findI_none {k : Int} : ∀ {es : List (Int × Int)} {i : Nat}, (∀ p ∈ es, p.1 ≠ k) → findI k es i = none := by
 intro es
 induction es with
 | nil => intro i _; rfl
 | cons p es ih =>
  intro i h
  rw [findI, if_neg (h p (by simp))]
  exact ih (fun q hq => h q (by simp [hq]))

theorem findI_last {k v : Int} : ∀ {es : List (Int × Int)} {i : Nat}, (∀ p ∈ es, p.1 ≠ k) → findI k (es ++ [(k, v)]) i = some (i + es.length, v) := by
 intro es
 induction es with
 | nil => intro i _; simp [findI]
 | cons p es ih =>
  intro i h
  rw [List.cons_append, findI, if_neg (h p (by simp)), ih (fun q hq => h q (by simp [hq]))]
  simp; omega

/-- A new key is put behind the others. -/
theorem update_run {w : World} {b : Nat} {es : List (Int × Int)} (h : IMap w b es) (k v : Int) (hn : ∀ p ∈ es, p.1 ≠ k) :
  ∃ o, (Instr.mapUpdate 79 (.map (some b)) (.int .i64 k) (.int .i64 v)).run Tryz.prog w = .ok () { w with heap := w.heap.setIfInBounds b o } ∧ IMap { w with heap := w.heap.setIfInBounds b o } b (es ++ [(k, v)]) := by
 obtain ⟨arr, clock, h1, h2⟩ := h
 have hf := MapKept.run_findKey (w := w) Tryz.underlying3 (findNow_ints k es arr.toList 0 h2)
 rw [findI_none hn] at hf
 have hk : MapKept.IsKey (.int .i64) (.int .i64 k) := by exact rfl
 have hc := MapKept.run_checkKey (w := w) Tryz.underlying3 hk false 9999
 refine ⟨.map (arr.push ⟨.int .i64 k, .int .i64 v, clock⟩) (clock + 1), ?_, _, _, (MapKept.heap_set h1).1, ?_⟩
 ·
  simp [Instr.mapUpdate, run_underlying Tryz.underlying79, MapKept.run_getObj_map h1, MapKept.run_setObj_map _ h1, hc, hf, Result.andThen]
 ·
  simp [h2]

/-- The last key is struck. -/
theorem delete_run {w : World} {b : Nat} {es : List (Int × Int)} {k v : Int} (h : IMap w b (es ++ [(k, v)])) (hn : ∀ p ∈ es, p.1 ≠ k) :
  ∃ o, (∀ T, (Builtin.delete_ #[79, 3] T #[.map (some b), .int .i64 k]).run Tryz.prog w = .ok (.tuple #[]) { w with heap := w.heap.setIfInBounds b o }) ∧ IMap { w with heap := w.heap.setIfInBounds b o } b es := by
 obtain ⟨arr, clock, h1, h2⟩ := h
 have hf := MapKept.run_findKey (w := w) Tryz.underlying3 (findNow_ints k _ arr.toList 0 h2)
 rw [findI_last hn] at hf
 have hk : MapKept.IsKey (.int .i64) (.int .i64 k) := by exact rfl
 have hc := MapKept.run_checkKey (w := w) Tryz.underlying3 hk arr.isEmpty 9999
 refine ⟨.map (arr.eraseIdxIfInBounds es.length) clock, ?_, _, _, (MapKept.heap_set h1).1, ?_⟩
 ·
  intro T
  simp [Builtin.delete_, run_underlying Tryz.underlying79, MapKept.run_getObj_map h1, MapKept.run_setObj_map _ h1, hc, hf, Result.andThen]
 ·
  have hl : arr.size = es.length + 1 := by have := congrArg List.length h2; simpa using this
  have e : (arr.eraseIdxIfInBounds es.length).toList = arr.toList.eraseIdx es.length := by simp [Array.eraseIdxIfInBounds, hl]
  have e2 : arr.toList.eraseIdx es.length = arr.toList.take es.length := by
   rw [List.eraseIdx_eq_take_drop_succ, List.drop_of_length_le (by simp [hl]), List.append_nil]
  rw [e, e2, List.map_take, h2]
  simp
end Go.Proofs.YthabgljdndbphaaGreatDoor

namespace Go.Proofs.YthabgljdndbphaaGreatDoor
open Go.RowKit

theorem drop_pair (G : List (Int × Int)) (i : Nat) (h : i < G.length) : G.drop i = (gs G i, gv G i) :: G.drop (i + 1) := by
 have e : (gs G i, gv G i) = G[i] := by simp [gs, gv, List.getD_eq_getElem?_getD, h]
 rw [e, List.drop_eq_getElem_cons h]

set_option maxRecDepth 10000 in
set_option maxHeartbeats 1600000 in
theorem refvalid_any (ra ga : Option Addr) (n c m d : Nat) (single b : Bool) (R : List Int) (G : List (Int × Int)) (w : World)
  (hn : n ≤ 4000) (hm : m ≤ 4000) (hR : Ints w ra n R) (hG : Pairs w ga m G) (hb : validS R G = b) :
  Calls Tryz.prog 10 #[.agg #[.slice ra n c, .slice ga m d, .bool single]] w fun e w' => e = .returned (.bool b) ∧ Below w.heap.size w w' := by
 have HB := Lib.hid hb; have HR := Lib.hid hR; have HG := Lib.hid hG
 clear hb hR hG
 go_enter Tryz.func10, Tryz.ntmps10
 go_wp2
 go_loopw [3, 4] (fun v3 k wr => ∃ (i : Nat) (all : Int), i ≤ n ∧ v3 = .int .i64 all ∧ k = .int .i64 i ∧ 0 ≤ all ∧ all ≤ 4000 ∧ wr.cell? ⟨w.heap.size, 0, none⟩ = some (.slice ra n c) ∧ wr.cell? ⟨w.heap.size, 1, none⟩ = some (.slice ga m d) ∧ Below w.heap.size w wr ∧
   w.heap.size + 1 ≤ wr.heap.size ∧ Hid (runsOk 4000 R = runsOk (4000 - all) (R.drop i)))
  (fun _ k _ => n - (intOf k).toNat)
 case atStart => exact ⟨0, 0, Nat.zero_le _, rfl, rfl, by omega, by omega, by simp [go_sem], by simp [go_sem], (Below.refl _ _).alloc (Nat.le_refl _) _, by simp, rfl⟩
 case round =>
  obtain ⟨i, all, hi, rfl, rfl, hl0, hl1, hp0, hp1, hbl, hsz, HF⟩ := hrel
  by_cases hlt : i < n
  ·
   obtain ⟨bb, o, rfl, r1⟩ := (HR.out.below hbl).2 i hlt
   have HD := Lib.hid (drop_ix R i (by rw [HR.out.1]; exact hlt))
   obtain ⟨x, hx⟩ : ∃ x, x = ix R i := ⟨_, rfl⟩
   rw [← hx] at r1 HD
   clear hx
   by_cases h1 : x < 1
   ·
    have HX : Hid (validS R G = false) := by simp [Hid, validS, HF.out, HD.out, runsOk, h1]
    go_wp2
    go_ret
    exact ⟨by rw [← HB.out, HX.out]; rfl, hbl⟩
   ·
    by_cases h2 : 4000 < x
    ·
     have HX : Hid (validS R G = false) := by
      have : 4000 - all < x := by omega
      simp [Hid, validS, HF.out, HD.out, runsOk, this]
     go_wp2
     go_ret
     exact ⟨by rw [← HB.out, HX.out]; rfl, hbl⟩
    ·
     by_cases h3 : 4000 < all + x
     ·
      have HX : Hid (validS R G = false) := by
       have : 4000 - all < x := by omega
       simp [Hid, validS, HF.out, HD.out, runsOk, this]
      go_wp2
      go_ret
      exact ⟨by rw [← HB.out, HX.out]; rfl, hbl⟩
     ·
      have HX : Hid (runsOk (4000 - all) (R.drop i) = runsOk (4000 - (all + x)) (R.drop (i + 1))) := by
       have : ¬ (x < 1 ∨ 4000 - all < x) := by omega
       rw [HD.out]; simp only [Hid, runsOk]; rw [if_neg this]; congr 1; omega
      go_wp2
      go_roundw
      case rel => exact ⟨i + 1, all + x, by omega, rfl, by go_num, by omega, by omega, hp0, hp1, hbl, hsz, by rw [HF.out, HX.out]; rfl⟩
      case measure => simp [intOf]; omega
  ·
   have H0 : Hid (validS R G = groupsOk G) := by
    have : R.drop i = [] := List.drop_eq_nil_of_le (by rw [HR.out.1]; omega)
    have h2 := HF.out; rw [this] at h2
    simp [Hid, validS, h2, runsOk, HG.out.1, hm]
   go_wp2
   obtain ⟨wo, rfl⟩ : ∃ wo : World, wo = wr := ⟨_, rfl⟩
   go_loopw [5, 6] (fun v5 _ wr => ∃ k : Nat, k ≤ m ∧ v5 = .int .i64 k ∧ wr.cell? ⟨w.heap.size, 1, none⟩ = some (.slice ga m d) ∧ Below w.heap.size w wr ∧ w.heap.size + 1 ≤ wr.heap.size ∧ Hid (groupsOk G = groupsOk (G.drop k)))
    (fun v5 _ _ => m - (intOf v5).toNat)
   case atStart => exact ⟨0, Nat.zero_le _, rfl, hp1, hbl, hsz, rfl⟩
   case round =>
    clear hp0 hp1 hbl hsz HF
    obtain ⟨k, hk, rfl, hp1, hbl, hsz, HF⟩ := hrel
    by_cases hlt2 : k < m
    ·
     obtain ⟨bg, og, rfl, c1, c2⟩ := (HG.out.below hbl).2 k hlt2
     have HD := Lib.hid (drop_pair G k (by rw [HG.out.1]; exact hlt2))
     obtain ⟨s, hs⟩ : ∃ x, x = gs G k := ⟨_, rfl⟩
     obtain ⟨v, hv⟩ : ∃ x, x = gv G k := ⟨_, rfl⟩
     rw [← hs] at c1 HD; rw [← hv] at c2 HD
     clear hs hv
     have hbl2 : ∀ o, Below w.heap.size w (wr.alloc o) := fun o => hbl.alloc hbl.size o
     have HBL2 := Lib.hid hbl2
     have HBL := Lib.hid hbl
     clear hbl hbl2
     have HBAD : Hid (badG s v = true → validS R G = false) := fun h => by rw [H0.out, HF.out, HD.out]; simp [groupsOk, h]
     by_cases h1 : s < 1
     ·
      have HX : Hid (validS R G = false) := HBAD.out (by simp [badG, h1])
      go_wp2
      go_ret
      exact ⟨by rw [← HB.out, HX.out]; rfl, HBL2.out _⟩
     ·
      by_cases h2 : 12 < s
      ·
       have HX : Hid (validS R G = false) := HBAD.out (by simp [badG, h2])
       go_wp2
       go_ret
       exact ⟨by rw [← HB.out, HX.out]; rfl, HBL2.out _⟩
      ·
       by_cases h3 : v < 0
       ·
        have HX : Hid (validS R G = false) := HBAD.out (by simp [badG, h3])
        go_wp2
        go_ret
        exact ⟨by rw [← HB.out, HX.out]; rfl, HBL2.out _⟩
       ·
        by_cases h4 : 1000000 < v
        ·
         have HX : Hid (validS R G = false) := HBAD.out (by simp [badG, h4])
         go_wp2
         go_ret
         exact ⟨by rw [← HB.out, HX.out]; rfl, HBL2.out _⟩
        ·
         have HX : Hid (groupsOk (G.drop k) = groupsOk (G.drop (k + 1))) := by
          rw [HD.out]; simp [Hid, groupsOk, badG]; omega
         have hne := World.new_ne wr _ hp1
         go_wp2
         go_roundw
         case rel => exact ⟨k + 1, by omega, by go_num, by rw [World.cell?_alloc_lt _ _ _ (cell_lt hp1)]; exact hp1, HBL2.out _, by simp; omega, by rw [HF.out, HX.out]; rfl⟩
         case measure => simp [intOf]; omega
    ·
     have HX : Hid (validS R G = true) := by
      rw [H0.out, HF.out, List.drop_eq_nil_of_le (by rw [HG.out.1]; omega)]; rfl
     go_wp2
     go_ret
     exact ⟨by rw [← HB.out, HX.out]; rfl, hbl⟩
end Go.Proofs.YthabgljdndbphaaGreatDoor

namespace Go.Proofs.YthabgljdndbphaaGreatDoor
open Go.RowKit

/-- An entry of a list of bools, behind a name that simp does not open. -/
def bx (l : List Bool) (i : Nat) : Bool := l.getD i false

/-- The address and length read as the bools xs. -/
def Bools (w : World) (ra : Option Addr) (n : Nat) (xs : List Bool) : Prop :=
 xs.length = n ∧ ∀ k, k < n → ∃ b o, ra = some ⟨b, o, none⟩ ∧ w.cell? ⟨b, o + k, none⟩ = some (.bool (bx xs k))

theorem Bools.below {w w' : World} {ra : Option Addr} {n : Nat} {xs : List Bool} (h : Bools w ra n xs) (hb : Below w.heap.size w w') : Bools w' ra n xs :=
 ⟨h.1, fun k hk => let ⟨b, o, e, c⟩ := h.2 k hk; ⟨b, o, e, Below.cell_of hb c⟩⟩

def BoolRow (w : World) (g : Nat) (T : TypeId) (D : List Bool) : Prop :=
 ∃ arr : Array Value, w.heap[g]? = some (.cells arr T (0, 0)) ∧ D.length ≤ arr.size ∧ ∀ k, k < D.length → arr[k]? = some (.bool (bx D k))

theorem BoolRow.lt {w : World} {g : Nat} {T : TypeId} {D : List Bool} (h : BoolRow w g T D) : g < w.heap.size :=
 let ⟨_, e, _⟩ := h; lt_of_block e

theorem BoolRow.cell {w : World} {g : Nat} {T : TypeId} {D : List Bool} (h : BoolRow w g T D) (k : Nat) (hk : k < D.length) : w.cell? ⟨g, k, none⟩ = some (.bool (bx D k)) := by
 obtain ⟨arr, e, _, c⟩ := h
 simp only [World.cell?, e]
 exact c k hk

theorem BoolRow.free {w : World} {g : Nat} {T : TypeId} {D : List Bool} (h : BoolRow w g T D) (k : Nat) : w.frozen? ⟨g, k, none⟩ = false := by
 obtain ⟨arr, e, _, c⟩ := h
 simp only [World.frozen?, e]
 simp

theorem bx_set (D : List Bool) (i j : Nat) (v : Bool) (hi : i < D.length) : bx (D.set i v) j = if i = j then v else bx D j := by
 unfold bx
 simp only [List.getD_eq_getElem?_getD, List.getElem?_set, hi, if_true]
 split <;> rfl

theorem BoolRow.set {w : World} {g : Nat} {T : TypeId} {D : List Bool} (h : BoolRow w g T D) (i : Nat) (hi : i < D.length) (v : Bool) : BoolRow (w.setCell ⟨g, i, none⟩ (.bool v)) g T (D.set i v) := by
 obtain ⟨arr, e, s, c⟩ := h
 refine ⟨arr.setIfInBounds i (.bool v), ?_, by simpa using s, fun k hk => ?_⟩
 ·
  simp [World.setCell, Array.getElem?_modify, e]
 ·
  rw [List.length_set] at hk
  rw [Array.getElem?_setIfInBounds, bx_set _ _ _ _ hi]
  by_cases hik : i = k
  ·
   rw [if_pos hik, if_pos hik, if_pos (by omega)]
  ·
   rw [if_neg hik, if_neg hik]; exact c k hk


theorem BoolRow.of_heap {w w' : World} {g : Nat} {T : TypeId} {S : List Bool} (h : BoolRow w g T S) (e : w'.heap[g]? = w.heap[g]?) : BoolRow w' g T S := by
 obtain ⟨arr, e1, r⟩ := h
 exact ⟨arr, e.trans e1, r⟩

theorem BoolRow.bools {w : World} {g : Nat} {T : TypeId} {D : List Bool} (h : BoolRow w g T D) : Bools w (some ⟨g, 0, none⟩) D.length D :=
 ⟨rfl, fun k hk => ⟨g, 0, rfl, by rw [Nat.zero_add]; exact h.cell k hk⟩⟩

theorem BoolRow.made {w : World} {arr : Array Value} {T : TypeId} {n g : Nat} (hg : g = w.heap.size) (hs : arr.size = n) (hz : ∀ k, k < n → arr[k]? = some (.bool false)) : BoolRow (w.alloc (.cells arr T)) g T (List.replicate n false) := by
 subst hg
 refine ⟨arr, ?_, by simp [hs], fun k hk => ?_⟩
 ·
  show (w.heap.push _)[w.heap.size]? = _
  simp
 ·
  rw [List.length_replicate] at hk
  rw [hz k hk]
  simp [bx, List.getD_eq_getElem?_getD, hk]


/-- A slice of bools of the call's own: where it has elements it starts a block from B on. -/
def OwnBools (w : World) (B : Nat) (la : Option Addr) (n : Nat) (L : List Bool) : Prop :=
 L.length = n ∧ (0 < n → ∃ g, la = some ⟨g, 0, none⟩ ∧ B ≤ g ∧ BoolRow w g 4 L)

theorem OwnBools.of_row {w : World} {B n : Nat} {v : Value} {L : List Bool} (h : w.ownsRow B 4 1 v n (L.map Value.bool)) : ∃ la c, v = .slice la n c ∧ OwnBools w B la n L := by
 have hl : L.length = n := by have := h.1; simpa using this
 rcases h.2 with ⟨rfl, h0⟩ | ⟨g, cap, cur, rfl, hb, hh, h1, _, h3, h4⟩
 ·
  subst h0; exact ⟨none, 0, rfl, hl, fun h => absurd h (by omega)⟩
 ·
  refine ⟨_, _, rfl, hl, fun _ => ⟨g, rfl, hb, cur, hh, by omega, fun k hk => ?_⟩⟩
  have h5 : (cur.toList.take (n * 1))[k]? = (L.map Value.bool)[k]? := by rw [h4]
  rw [List.getElem?_take_of_lt (by omega)] at h5
  simp only [Array.getElem?_toList, List.getElem?_map] at h5
  rw [h5]
  simp [bx, List.getD_eq_getElem?_getD, hk]

end Go.Proofs.YthabgljdndbphaaGreatDoor
