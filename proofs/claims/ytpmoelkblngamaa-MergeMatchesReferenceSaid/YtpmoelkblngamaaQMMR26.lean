/- merge: slices.Sort at an own list of integers; such a list's append; merge: gate: the numbers in memory; the first loop's walk. -/
import Derived.Test.YtpmoelkblngamaaQMMR23
import Derived.Test.YtpmoelkblngamaaQMMR25
import Derived.Shelf.SlIterI.Nil

namespace Go.Proofs.Ytpmoelkblngamaa
open Go.RowKit Go.IntWalk Go.Maps Go.WideMaps Go.Sort

theorem sort_own (B n : Nat) (v : Value) (ss : List Int) (w : World) (hB : B ≤ w.heap.size) (hn : n ≤ 1000000) (h : w.ownsRow B 3 1 v n (ss.map (Value.int .i64))) :
    Calls Try.prog 48 #[v] w fun e w' => e = .returned (.tuple #[]) ∧ w'.ownsRow B 3 1 v n ((ss.mergeSort (fun x y => decide (x ≤ y))).map (Value.int .i64)) ∧ w.grownBy w' v.ownBlock := by
  have hlen : ss.length = n := by have := h.1; simpa using this
  rcases h.2 with ⟨rfl, hz⟩ | ⟨gb, cap, cur, rfl, hbase, hgb, r1, r2, r3, r4⟩
  · have hss : ss = [] := List.eq_nil_of_length_eq_zero (by omega)
    subst hss
    refine (Try.slices_Sort_int_none none 0 w).mono ?_
    rintro e w' ⟨rfl, rfl⟩
    exact ⟨rfl, by simpa using h, grown_refl w' _⟩
  · have hH : Holds encZ w gb 0 ss.toArray := holds_of_block_i hgb (by rw [hlen]; simpa using r4)
    have hgl : gb < w.heap.size := (Array.getElem?_eq_some_iff.1 hgb).1
    have hs := Try.slices_Sort_int gb 0 cap ss w hH hgl (by omega)
    rw [hlen] at hs
    refine hs.mono ?_
    rintro e w' ⟨rfl, k, os, rfl⟩
    refine ⟨rfl, ?_, grownBy_sorted_i _⟩
    have := ownsRow_sorted_i (n := k) (os := os) (ts := ss.mergeSort fun x y => decide (x ≤ y)) (ss := ss) (by simp) hbase hgb (by omega) r2 (by simpa using r3)
    rw [hlen] at this
    exact this

theorem run_append_int {w : World} {base n b : Nat} {v : Value} {L : List Int} {x : Int} (ty : TypeId) (hown : w.ownsRow base 3 1 v n (L.map (Value.int .i64))) (hb : w.heap[b]? = some (.cells #[.int .i64 x] 3 (0, 0))) (h63 : n ≤ 1000000) (hbase : base ≤ w.heap.size) :
    ∃ v' w', (Builtin.append_ #[34, 34] ty #[v, .slice (some ⟨b, 0, none⟩) 1 1]).run Try.prog w = .ok v' w' ∧ w'.ownsRow base 3 1 v' (n + 1) ((L ++ [x]).map (Value.int .i64)) ∧ w.grownBy w' v.ownBlock ∧ (v'.ownBlock = v.ownBlock ∨ v'.ownBlock = some w.heap.size) := by
  obtain ⟨i, hi, hz, hs, hbt⟩ := info_parts' int_info
  obtain ⟨v', w', h1, h2, h3, _, h5⟩ := run_append_own_at (P := Try.prog) (w := w) base 34 ty 3 i _ 1 8 Try.underlying34 hi hz hs hbt rfl (by decide) v n _ hown ⟨b, 0, none⟩ 1 1 [.int .i64 x] rfl (World.news_of_block (cs := #[.int .i64 x]) hb) (by intro u hu; rw [List.mem_singleton.mp hu]; rfl) (by unfold maxLen; omega) (by omega) hbase
  refine ⟨v', w', h1, ?_, h3, h5⟩
  rw [List.map_append]
  exact h2

theorem wpList_append_int {w : World} {ops : Array Oper} {rest : List Oper} {o : Oper} {a : Act} {Q : Exit → Act → World → Prop} (hgd : o.guard = none) (s x : Operand) (ho : o.op = .call { callee := .builtin .append, args := #[s, x], argTypes := #[34, 34] })
    {base n b : Nat} {v : Value} {L : List Int} {k : Int} (hs : a.eval s = v) (hx : a.eval x = .slice (some ⟨b, 0, none⟩) 1 1) (hown : w.ownsRow base 3 1 v n (L.map (Value.int .i64))) (hb : w.heap[b]? = some (.cells #[.int .i64 k] 3 (0, 0))) (h63 : n ≤ 1000000) (hbase : base ≤ w.heap.size)
    (h : ∀ v' w', w'.ownsRow base 3 1 v' (n + 1) ((L ++ [k]).map (Value.int .i64)) → w.grownBy w' v.ownBlock → (v'.ownBlock = v.ownBlock ∨ v'.ownBlock = some w.heap.size) → wpList Try.prog ops Q rest (a.put o.dst v') w') : wpList Try.prog ops Q (o :: rest) a w := by
  obtain ⟨v', w', hr, h1, h2, h3⟩ := run_append_int o.type hown hb h63 hbase
  exact Lib.wpList_append_run w hgd s x _ _ ho v _ hs hx v' w' hr (h v' w' h1 h2 h3)

/-- A sorted list of numbers, each once. -/
theorem sort_set {L : List Int} (hn : L.Nodup) : L.mergeSort (fun x y => decide (x ≤ y)) = setK KI L := by
  refine setK_eq KI (ints_strict ?_) fun a => (List.mergeSort_perm L _).mem_iff
  have h1 : (L.mergeSort (fun x y => decide (x ≤ y))).Pairwise fun x y => decide (x ≤ y) = true := List.pairwise_mergeSort (le := fun x y : Int => decide (x ≤ y)) (fun a b c h1 h2 => by simp at *; omega) (fun a b => by simp; omega) L
  have h2 : (L.mergeSort (fun x y => decide (x ≤ y))).Nodup := (List.mergeSort_perm L _).nodup_iff.mpr hn
  exact (h1.and h2).imp fun h => by have := h.1; have := h.2; simp at *; omega
end Go.Proofs.Ytpmoelkblngamaa

namespace Go.Proofs.Ytpmoelkblngamaa
open Go.RowKit Go.IntWalk Go.Maps Go.WideMaps

def scnV (s : Scn) : Value := .agg #[.int .i64 s.gate, .int .i64 s.number, .int .i64 s.time, .int .i64 s.serial, .int .i64 s.kind, .string (bs s.owner)]

/-- The first scans of the numbers, in a map. -/
structure NumAt (w : World) (M : Nat) (E : List EntT) (F : List Scn) : Prop where
  asc : AscV E
  map : w.ownsMap Try.prog 3 RV M E.length (mapV E)
  look : ∀ n, lookV E n = (F.find? fun s => decide (s.number = n)).map scnV
  len : E.length ≤ F.length

theorem find_seen {F : List Scn} {n : Int} : (F.find? fun s => decide (s.number = n)).isSome = seenB F n := by
  unfold seenB
  induction F with
  | nil => rfl
  | cons a F ih =>
    rw [List.find?_cons, List.any_cons]
    by_cases h : a.number = n
    · simp [h]
    · simp only [h, decide_false, Bool.false_or]
      exact ih
theorem find_num {F : List Scn} {n : Int} (h : seenB F n = true) : F.find? (fun s => decide (s.number = n)) = some (numOf F n) := by
  unfold numOf
  rw [← find_seen] at h
  obtain ⟨s, e⟩ := Option.isSome_iff_exists.mp h
  rw [e]
  rfl
theorem find_no {F : List Scn} {n : Int} (h : seenB F n = false) : F.find? (fun s => decide (s.number = n)) = none := by
  rw [← find_seen] at h
  simpa using h

section
variable {w w' : World} {M : Nat} {E : List EntT} {F : List Scn}
theorem NumAt.heap (h : NumAt w M E F) (e : w'.heap[M]? = w.heap[M]?) : NumAt w' M E F := ⟨h.asc, ownsMap_heap h.map e, h.look, h.len⟩
theorem NumAt.below (h : NumAt w M E F) (hb : Below w.heap.size w w') : NumAt w' M E F := by
  obtain ⟨es, c, e⟩ := ownsMap_blk h.map
  exact h.heap (hb.block M (lt_of_block e))
theorem NumAt.updB {bb : Nat} (h : NumAt w M E F) (hb : UpdB bb w w') : NumAt w' M E F := by
  obtain ⟨es, c, e⟩ := ownsMap_blk h.map
  exact h.heap ((hb.map e).trans e.symm)
theorem NumAt.put (h : NumAt w M E F) (s : Scn) (hs : seenB F s.number = false) {n : Nat} (hm : w'.ownsMap Try.prog 3 RV M n ((mapV E).put (.int .i64 s.number) (.held (scnV s)))) : NumAt w' M (putV E s.number (scnV s)) (F ++ [s]) := by
  rw [mapV_put h.asc] at hm
  refine ⟨putV_asc h.asc _ _, tightV hm, fun k => ?_, ?_⟩
  · rw [look_put h.asc, List.find?_append]
    by_cases e : k = s.number
    · rw [if_pos e, e, find_no hs]
      simp
    · rw [if_neg e, h.look]
      have : ([s].find? fun s => decide (s.number = k)) = none := by simp; exact fun e' => e e'.symm
      rw [this, Option.or_none]
  · have := putV_len E s.number (scnV s)
    have := h.len
    rw [List.length_append, List.length_singleton]
    omega
theorem NumAt.no (h : NumAt w M E F) {n : Int} (hs : seenB F n = false) : lookV E n = none := by rw [h.look, find_no hs]; rfl
theorem NumAt.yes (h : NumAt w M E F) {n : Int} (hs : seenB F n = true) : lookV E n = some (scnV (numOf F n)) := by rw [h.look, find_num hs]; rfl
end

/-- A list of integers of the call's own. -/
def IntsO (w : World) (B : Nat) (v : Value) (L : List Int) : Prop := w.ownsRow B 3 1 v L.length (L.map (Value.int .i64))
theorem IntsO.below {w w' : World} {B : Nat} {v : Value} {L : List Int} (h : IntsO w B v L) (hb : Below w.heap.size w w') : IntsO w' B v L := row_of_heap h fun r hr => hb.block r (World.ownsRow.lt h r hr).2
theorem IntsO.updB {w w' : World} {B bb : Nat} {v : Value} {L : List Int} (h : IntsO w B v L) (hb : UpdB bb w w') : IntsO w' B v L := row_of_heap h fun r hr => by
  rcases h.2 with ⟨rfl, _⟩ | ⟨g, cap, cur, rfl, _, hg, _⟩
  · cases hr
  · cases hr
    exact (hb.cells hg (by decide) (by decide)).trans hg.symm
theorem IntsO.blk {w : World} {B b : Nat} {v : Value} {L : List Int} (h : IntsO w B v L) (e : v.ownBlock = some b) : B ≤ b ∧ ∃ arr x, w.heap[b]? = some (.cells arr 3 x) := by
  rcases h.2 with ⟨rfl, _⟩ | ⟨g, cap, cur, rfl, hb, hg, _⟩
  · cases e
  · cases e
    exact ⟨hb, cur, _, hg⟩

theorem UpdB.grown {w w1 w2 : World} {bb : Nat} {r : Option Nat} (h : UpdB bb w w1) (hg : w1.grownBy w2 r) (hr : ∀ b, r = some b → w.heap.size ≤ b) : UpdB bb w w2 :=
  ⟨hg.os.trans h.os, hg.tape.trans h.tape, hg.output.trans h.output, Nat.le_trans h.size hg.size, fun i hi hS => (hg.block i (Nat.lt_of_lt_of_le hi h.size) (fun e => by have := hr i e.symm; omega)).trans (h.block i hi hS)⟩
theorem UpdB.next {w w1 w2 : World} {bb : Nat} (h : UpdB bb w w1) (hb : Below w1.heap.size w1 w2) : UpdB bb w w2 := h.trans (UpdB.of_below hb)
theorem BAt.int {w w' : World} {bb : Nat} {l : List Blm} {r : Option Nat} (h : BAt w bb l) (hg : w.grownBy w' r) (hr : ∀ b, r = some b → ∃ arr x, w.heap[b]? = some (.cells arr 3 x)) : BAt w' bb l :=
  h.other hg fun b e => by
    obtain ⟨arr, x, hb⟩ := hr b e
    exact ⟨_, hb, fun _ _ _ e => by cases e; exact ⟨by decide, by decide⟩⟩
theorem BAt.mapB {w w' : World} {bb M : Nat} {l : List Blm} (h : BAt w bb l) (hg : w.grownBy w' (some M)) {es : Array MapEntry} {c : Nat} (hM : w.heap[M]? = some (.map es c)) : BAt w' bb l :=
  h.other hg fun b e => by
    cases e
    exact ⟨_, hM, fun _ _ _ e => by cases e⟩

theorem scan_zero (w : World) : (zeroValue 39).run Try.prog w = .ok (.agg #[.int .i64 0, .int .i64 0, .int .i64 0, .int .i64 0, .int .i64 0, .string (bs [])]) w := by kernel_rfl

/-- A row of scans in a block of its type. -/
theorem RecRow.updB {w w' : World} {bb g : Nat} {l : List Scn} (h : RecRow ScnE w g 39 l) (hb : UpdB bb w w') : RecRow ScnE w' g 39 l := by
  obtain ⟨arr, e, r⟩ := h
  exact ⟨arr, hb.cells e (by decide) (by decide), r⟩
theorem enter_blame : ∀ (args : Array Value) (w : World), (callFunc 37 args).run Try.prog w = .ok (.enter 37 args) w := enters_of Try.func37 (by kernel_rfl) rfl

theorem first_take {l : List Scn} {i : Nat} (h : i < l.length) : firstL (l.take (i + 1)) = if seenB (firstL (l.take i)) l[i].number then firstL (l.take i) else firstL (l.take i) ++ [l[i]] := by
  rw [List.take_succ_eq_append_getElem h, first_snoc]
theorem fork_take {l : List Scn} {i : Nat} (h : i < l.length) : forkF (l.take (i + 1)) = if seenB (firstL (l.take i)) l[i].number then forkF (l.take i) ++ [forkB l[i]] else forkF (l.take i) := by
  rw [List.take_succ_eq_append_getElem h, fork_snoc]
theorem first_len (l : List Scn) : (firstL l).length ≤ l.length := by
  induction l using snoc_ind with
  | h0 => exact Nat.le_refl _
  | h1 l x ih =>
    rw [first_snoc]
    split
    · rw [List.length_append]; omega
    · rw [List.length_append, List.length_append]; omega
theorem fork_len (l : List Scn) : (forkF l).length ≤ l.length := by
  induction l using snoc_ind with
  | h0 => exact Nat.le_refl _
  | h1 l x ih =>
    rw [fork_snoc]
    split
    · simp only [List.length_append, List.length_singleton]; omega
    · rw [List.length_append]; omega
theorem two_blocks (w : World) (a b : Obj) : ((w.alloc a).alloc b).drew.heap[w.heap.size]? = some a ∧ ((w.alloc a).alloc b).drew.heap[w.heap.size + 1]? = some b ∧ Below w.heap.size w ((w.alloc a).alloc b).drew := by
  refine ⟨?_, ?_, (Joins.below_alloc2 w a b).drew⟩
  · exact ((Joins.below_alloc1 (w.alloc a) b).block w.heap.size (by simp)).trans (World.alloc_heap_new w a)
  · have := World.alloc_heap_new (w.alloc a) b
    rw [show (w.alloc a).heap.size = w.heap.size + 1 from by simp] at this
    exact this
theorem ix_in {L : List Int} {i : Nat} (h : i < L.length) : ix L i ∈ L := by
  unfold ix
  rw [List.getD_eq_getElem?_getD, List.getElem?_eq_getElem h]
  exact List.getElem_mem h
end Go.Proofs.Ytpmoelkblngamaa
