/- pack: what every walk leans on: records in memory, appends of records, variables. -/
import Derived.Test.YthabgljdndbphaaGreatDoorQPKM01
import Derived.Test.YthabgljdndbphaaGreatDoorQPKM02
import Derived.Test.YthabgljdndbphaaGreatDoorQPKM03
import Derived.ArgAppend
import Derived.Below
import Derived.BigQuiet
import Derived.BigRegion
import Derived.Deep.AppendLies
import Derived.Deep.RegionHeldLaw
import Derived.Deep.RegionWith
import Derived.Deep.SlicePairs
import Derived.IntWalk
import Derived.Laws.EntriesVeiled
import Derived.WideLaws
import Derived.Laws.Rows
import Derived.Laws.StructEq
import Derived.Laws.Cover1
import Derived.Lib.SmallJoins
import Derived.Maps.AppendAt
import Derived.Laws.CopyOwn
import Derived.Laws.Tables
import Derived.Test.YthabgljdndbphaaGreatDoorProg

set_option linter.unusedVariables false
set_option linter.unusedSimpArgs false
namespace Go.Proofs.YthabgljdndbphaaGreatDoor
open Go.RowKit Go.IntWalk
set_option linter.unusedSimpArgs false
set_option linter.unusedVariables false

def IntE : Enc Int 1 := ⟨fun x => [.int .i64 x], fun _ => rfl, fun x v hv => by
 simp only [List.mem_cons, List.not_mem_nil, or_false] at hv
 subst hv; rfl, by decide⟩
theorem wrap_in {x : Int} (h1 : -9223372036854775808 ≤ x) (h2 : x ≤ 9223372036854775807) : IntKind.i64.wrap x = x := i64_in x ⟨h1, h2⟩
theorem wrap_succ {i : Nat} (h : i < 9223372036854775807) : IntKind.i64.wrap ((i : Int) + 1) = ((i + 1 : Nat) : Int) := by
 rw [wrap_in (by omega) (by omega)]
 omega
theorem below_d {n : Nat} {w w' : World} (h : Below n w w') : Below n w w'.drew := below_drewN h 1
/-- A struct in a block of its own: its cells. -/
theorem boxed_cell {w : World} {g j : Nat} {arr : Array Value} {T : TypeId} {v : Value} (h : w.heap[g]? = some (.cells arr T (0, 0))) (hj : arr[j]? = some v) : w.cell? ⟨g, j, none⟩ = some v := by
 rw [cell_of_row (j := j) _ _ _ _ _ h]
 exact hj
/-- A slice value that reads as records. -/
def Rcs {α : Type} {k : Nat} (E : Enc α k) (w : World) (v : Value) (l : List α) : Prop := ∃ la c, v = .slice la l.length c ∧ Recs E w la l.length l ∧ (la = none → c = 0)
theorem Rcs.below {α : Type} {k : Nat} {E : Enc α k} {w w' : World} {v : Value} {l : List α} (h : Rcs E w v l) (hb : Below w.heap.size w w') : Rcs E w' v l :=
 let ⟨la, c, e, r, hc⟩ := h; ⟨la, c, e, r.below hb, hc⟩
theorem Rcs.of_own {α : Type} {k : Nat} {E : Enc α k} {w : World} {B n : Nat} {T : TypeId} {v : Value} {l : List α} (h : w.ownsRow B T k v n (flat E l)) : Rcs E w v l := by
 have hl : l.length = n := by
  have := h.1
  rw [flat_len] at this
  exact Nat.eq_of_mul_eq_mul_right E.pos this
 subst hl
 obtain ⟨la, c, rfl, ho⟩ := OwnRecs.of_row h
 refine ⟨la, c, rfl, ho.recs, fun hn => ?_⟩
 subst hn
 rcases h.2 with ⟨h1, _⟩ | ⟨g, cap, cur, h1, _⟩
 ·
  simp only [Value.slice.injEq] at h1; exact h1.2.2
 ·
  cases h1
theorem info_parts {x : Option TypeInfo} {z : Option Value} {s b : Nat} (h : x.map (fun i => (i.zero, i.size, i.bytes)) = some (z, s, b)) : ∃ i, x = some i ∧ i.zero = z ∧ i.size = s ∧ i.bytes = b := by
 obtain ⟨i, hi, e⟩ := Option.map_eq_some_iff.1 h
 simp only [Prod.mk.injEq] at e
 exact ⟨i, hi, e.1, e.2.1, e.2.2⟩
/-- An append of records to a row of the call's own. -/
theorem append_recs {α : Type} {k : Nat} {E : Enc α k} {w : World} {base n : Nat} {v u : Value} {xs l : List α} (t e ty : TypeId) {z : Value} {bytes : Nat} (ht : Tryz.prog.underlying t = some (.slice e)) (hi : (Tryz.prog.info? e).map (fun i => (i.zero, i.size, i.bytes)) = some (some z, k, bytes)) (hzs : z.cells.size = k) (hby : bytes ≤ 1000)
  (hown : w.ownsRow base e k v n (flat E xs)) (hu : Rcs E w u l) (h63 : n + l.length ≤ 1000000) (hbase : base ≤ w.heap.size) :
  ∃ v' w', (Builtin.append_ #[t, t] ty #[v, u]).run Tryz.prog w = .ok v' w' ∧ w'.ownsRow base e k v' (n + l.length) (flat E (xs ++ l)) ∧ w.grownBy w' v.ownBlock ∧ (v'.ownBlock = v.ownBlock ∨ v'.ownBlock = some w.heap.size) := by
 obtain ⟨i, hi, hz, hs, hb⟩ := info_parts hi
 obtain ⟨la, c, rfl, hr, hc⟩ := hu
 cases la with
 | none =>
  have hl : l.length = 0 := by
   rcases Nat.eq_zero_or_pos l.length with h | h
   ·
    exact h
   ·
    obtain ⟨b, o, e, _⟩ := hr.2 0 h; cases e
  obtain rfl := List.length_eq_zero_iff.mp hl
  rw [hc rfl, List.append_nil]
  exact ⟨v, w, run_append_owned_none w base _ _ _ i k ht hi v n _ hown, hown, ⟨rfl, rfl, rfl, Nat.le_refl _, fun _ _ _ => rfl⟩, Or.inl rfl⟩
 | some ad =>
  obtain ⟨v', w', h1, h2, h3, _, h5⟩ := run_append_own_at (P := Tryz.prog) (w := w) base t ty e i z k bytes ht hi hz hs hb hzs E.pos v n (flat E xs) hown ad l.length c (flat E l) (by rw [flat_len]) (flat_cells hr) flat_one (by unfold maxLen; omega) (by
   have : (n + l.length) * bytes ≤ 1000000 * 1000 := Nat.mul_le_mul h63 hby
   omega) hbase
  rw [← flat_append] at h2
  exact ⟨v', w', h1, h2, h3, h5⟩
/-- w' is w but for blocks of some types. -/
structure TUpd (S : TypeId → Prop) (w w' : World) : Prop where
 os : w'.os = w.os
 tape : w'.tape = w.tape
 output : w'.output = w.output
 size : w.heap.size ≤ w'.heap.size
 block : ∀ (b : Nat) (o : Obj), w.heap[b]? = some o → (∀ arr T x, o = .cells arr T x → ¬ S T) → w'.heap[b]? = some o
theorem TUpd.of_below {S : TypeId → Prop} {w w' : World} (h : Below w.heap.size w w') : TUpd S w w' := ⟨h.os, h.tape, h.output, h.size, fun b o hb _ => (h.block b (lt_of_block hb)).trans hb⟩
theorem TUpd.refl (S : TypeId → Prop) (w : World) : TUpd S w w := ⟨rfl, rfl, rfl, Nat.le_refl _, fun _ _ h _ => h⟩
theorem TUpd.trans {S : TypeId → Prop} {a b c : World} (h : TUpd S a b) (k : TUpd S b c) : TUpd S a c :=
 ⟨k.os.trans h.os, k.tape.trans h.tape, k.output.trans h.output, Nat.le_trans h.size k.size, fun i o hi hS => k.block i o (h.block i o hi hS) hS⟩
theorem TUpd.wide {S T : TypeId → Prop} {a b : World} (h : TUpd S a b) (hs : ∀ i, S i → T i) : TUpd T a b :=
 ⟨h.os, h.tape, h.output, h.size, fun i o hi hT => h.block i o hi (fun arr U x e hU => hT arr U x e (hs U hU))⟩
theorem TUpd.keep {S : TypeId → Prop} {w w' : World} (h : TUpd S w w') {b : Nat} {arr : Array Value} {T : TypeId} {x : Nat × Nat} (hb : w.heap[b]? = some (.cells arr T x)) (hT : ¬ S T) : w'.heap[b]? = some (.cells arr T x) :=
 h.block b _ hb fun _ _ _ e hS => by cases e; exact hT hS
theorem row_of_heap {w w' : World} {B k n : Nat} {T : TypeId} {v : Value} {xs : List Value} (h : w.ownsRow B T k v n xs) (e : ∀ r, v.ownBlock = some r → w'.heap[r]? = w.heap[r]?) : w'.ownsRow B T k v n xs := by
 refine ⟨h.1, ?_⟩
 rcases h.2 with h0 | ⟨g, cap, cur, rfl, hb, hh, r⟩
 ·
  exact Or.inl h0
 ·
  exact Or.inr ⟨g, cap, cur, rfl, hb, (e g rfl).trans hh, r⟩
theorem own_type {w : World} {B k n : Nat} {T : TypeId} {v : Value} {xs : List Value} {r : Nat} (h : w.ownsRow B T k v n xs) (hr : v.ownBlock = some r) : ∃ cur : Array Value, w.heap[r]? = some (.cells cur T (0, 0)) := by
 rcases h.2 with ⟨rfl, _⟩ | ⟨g, cap, cur, rfl, _, hh, _⟩
 ·
  cases hr
 ·
  cases hr; exact ⟨cur, hh⟩
theorem own_mono {w : World} {B B' k n : Nat} {T : TypeId} {v : Value} {xs : List Value} (h : w.ownsRow B T k v n xs) (hb : B' ≤ B) : w.ownsRow B' T k v n xs := by
 refine ⟨h.1, ?_⟩
 rcases h.2 with h0 | ⟨g, cap, cur, rfl, hbb, hh⟩
 ·
  exact Or.inl h0
 ·
  exact Or.inr ⟨g, cap, cur, rfl, Nat.le_trans hb hbb, hh⟩
theorem nil_row {w : World} {B : Nat} {T : TypeId} {k : Nat} : w.ownsRow B T k (.slice none 0 0) 0 [] := ⟨by simp, Or.inl ⟨rfl, rfl⟩⟩
/-- A cell of an own list of records is stored into. -/
theorem own_set {α : Type} {k : Nat} {E : Enc α k} {w : World} {B n g cap : Nat} {T : TypeId} {xs : List α} (h : w.ownsRow B T k (.slice (some ⟨g, 0, none⟩) n cap) n (flat E xs)) (i j : Nat) (x : α) (v : Value) (hi : i < xs.length) (hj : j < k)
  (hx : ∀ q, q < k → (E.cells x).getD q (.bool false) = if j = q then v else rc E xs i q) : (w.setCell ⟨g, i * k + j, none⟩ v).ownsRow B T k (.slice (some ⟨g, 0, none⟩) n cap) n (flat E (xs.set i x)) := by
 have hl : xs.length = n := by
  have := h.1
  rw [flat_len] at this
  exact Nat.eq_of_mul_eq_mul_right E.pos this
 obtain ⟨g', c', e1, _, _, _, hr⟩ := RecRow.of_row (by omega) h
 simp only [Value.slice.injEq, Option.some.injEq, Addr.mk.injEq] at e1
 obtain ⟨⟨rfl, _, _⟩, _, rfl⟩ := e1
 obtain ⟨arr, e, s, c⟩ := hr.put i j x v hi hj hx
 rcases h.2 with ⟨h0, _⟩ | ⟨g2, cap2, cur, e2, hb, hg, hnc, hcm, hsz, ht⟩
 ·
  cases h0
 simp only [Value.slice.injEq, Option.some.injEq, Addr.mk.injEq] at e2
 obtain ⟨⟨rfl, _, _⟩, _, rfl⟩ := e2
 have hg' : (w.setCell ⟨g, i * k + j, none⟩ v).heap[g]? = some (.cells (cur.setIfInBounds (i * k + j) v) T (0, 0)) := by simp [World.setCell, Array.getElem?_modify, hg]
 rw [hg'] at e
 simp only [Option.some.injEq, Obj.cells.injEq, and_true] at e
 refine ⟨by rw [flat_len, List.length_set, hl], .inr ⟨g, cap, _, rfl, hb, hg', hnc, hcm, by simpa using hsz, ?_⟩⟩
 rw [e] at *
 apply List.ext_getElem?
 intro p
 have hk := E.pos
 by_cases hp : p < n * k
 ·
  rw [List.getElem?_take_of_lt hp, Array.getElem?_toList]
  have h1 : p / k < (xs.set i x).length := by
   rw [List.length_set, hl]
   exact (Nat.div_lt_iff_lt_mul hk).2 hp
  have h2 : p % k < k := Nat.mod_lt _ hk
  have h3 : p / k * k + p % k = p := by rw [Nat.mul_comm]; exact Nat.div_add_mod p k
  have h4 := c (p / k) (p % k) h1 h2
  have h5 := flat_get (E := E) (xs.set i x) (p / k) (p % k) h1 h2
  rw [h3] at h4 h5
  rw [h4, h5]
 ·
  rw [List.getElem?_eq_none (by rw [List.length_take]; omega), List.getElem?_eq_none (by rw [flat_len, List.length_set, hl]; omega)]
theorem heap_new (w : World) (o : Obj) : (w.alloc o).heap[w.heap.size]? = some o := by simp only [World.alloc, Array.getElem?_push_size]
/-- A struct variable is made: its block, the run of its store, what stays. -/
theorem var_new (w : World) (T : TypeId) (Z V : Array Value) (hi : (Tryz.prog.info? T).map (·.size) = some V.size) (ho : Z.size = V.size) (h1 : V.all (·.oneCell') = true) :
  ∃ wa g, w.alloc (.cells Z T) = wa ∧ g = w.heap.size ∧ (storeVar T ⟨g, 0, none⟩ (.agg V)).run Tryz.prog wa = .ok () (wa.setRow g V) ∧ Hid (Below w.heap.size w (wa.setRow g V) ∧ (wa.setRow g V).heap[g]? = some (.cells V T (0, 0)) ∧ w.heap.size ≤ g) := by
 have hs0 : (w.alloc (.cells Z T)).heap[w.heap.size]? = some (.cells Z T (0, 0)) := heap_new _ _
 exact ⟨_, _, rfl, rfl, run_storeVar_row _ _ T T Z V hs0 hi ho h1, below_setRow (Joins.below_alloc1 w _) (Nat.le_refl _) V, setRow_heap _ _ Z V T (0, 0) hs0, Nat.le_refl _⟩

/-- A block that has just been made reads as records. -/
theorem recs_alloc {α : Type} {k : Nat} (E : Enc α k) (w : World) (T : TypeId) (xs : List α) (arr : Array Value) (h : arr.toList = flat E xs) : Recs E (w.alloc (.cells arr T)) (some ⟨w.heap.size, 0, none⟩) xs.length xs := by
 refine ⟨rfl, fun i hi => ⟨_, _, rfl, fun j hj => ?_⟩⟩
 have hN := heap_new w (.cells arr T)
 rw [cell_of_row (j := 0 + i * k + j) _ _ _ _ _ hN]
 have := flat_get (E := E) xs i j hi hj
 rw [Nat.zero_add, ← this, ← h]
 simp

/-- A run: its room, and whether a group sits there. -/
def RunE : Enc (Int × Bool) 2 := ⟨fun x => [.int .i64 x.1, .bool x.2], fun _ => rfl, fun x v hv => by
 simp only [List.mem_cons, List.not_mem_nil, or_false] at hv
 rcases hv with rfl | rfl <;> rfl, by decide⟩
theorem run_at {w : World} {ra : Option Addr} {n : Nat} {l : List (Int × Bool)} (h : Recs RunE w ra n l) (i : Nat) (hi : i < n) (hiE : i < l.length) : ∃ b o, ra = some ⟨b, o, none⟩ ∧ w.cell? ⟨b, o + i * 2, none⟩ = some (.int .i64 l[i].1) ∧ w.cell? ⟨b, o + i * 2 + 1, none⟩ = some (.bool l[i].2) := by
 obtain ⟨b, o, e, c⟩ := h.2 i hi
 have c0 := c 0 (by omega)
 have c1 := c 1 (by omega)
 rw [rc_eq _ _ hiE] at c0 c1
 exact ⟨b, o, e, c0, c1⟩
theorem info_run : (Tryz.prog.info? 63).map (fun i => (i.zero, i.size, i.bytes)) = some (some (.agg #[.int .i64 0, .bool false]), 2, 16) := by kernel_rfl
theorem info_int : (Tryz.prog.info? 3).map (fun i => (i.zero, i.size, i.bytes)) = some (some (.int .i64 0), 1, 8) := by kernel_rfl
end Go.Proofs.YthabgljdndbphaaGreatDoor
