/- merge: slices.Sort at an own list of integers; such a list's append. -/
import Derived.Shelf.SlIterI.Nil
import Derived.Test.YtpmoelkblngamaaShelf
import Derived.Test.YtpmoelkblngamaaC8
namespace Go.Proofs.Ytpmoelkblngamaa
open Go.RowKit Go.IntWalk Go.Maps Go.WideMaps Go.Sort

theorem sort_own (B n : Nat) (v : Value) (ss : List Int) (w : World) (hB : B ≤ w.heap.size) (hn : n ≤ 1000000) (h : w.ownsRow B 3 1 v n (ss.map (Value.int .i64))) :
    Calls Try.prog 48 #[v] w fun e w' => e = .returned (.tuple #[]) ∧ w'.ownsRow B 3 1 v n ((ss.mergeSort (fun x y => decide (x ≤ y))).map (Value.int .i64)) ∧ w.grownBy w' v.ownBlock := by
  have hlen : ss.length = n := by have := h.1; simpa using this
  rcases h.2 with ⟨rfl, hz⟩ | ⟨gb, cap, cur, rfl, hbase, hgb, r1, r2, r3, r4⟩
  · have hss : ss = [] := List.eq_nil_of_length_eq_zero (by omega)
    subst hss
    refine (Try.slices_Sort_int_none none 0 w).mono ?_
    rintro e w' ⟨rfl, rfl⟩
    exact ⟨rfl, by simpa using h, grown_refl w' _⟩
  · have hH : Holds encZ w gb 0 ss.toArray := holds_of_block_i hgb (by rw [hlen]; simpa using r4)
    have hgl : gb < w.heap.size := (Array.getElem?_eq_some_iff.1 hgb).1
    have hs := Try.slices_Sort_int gb 0 cap ss w hH hgl (by omega)
    rw [hlen] at hs
    refine hs.mono ?_
    rintro e w' ⟨rfl, k, os, rfl⟩
    refine ⟨rfl, ?_, grownBy_sorted_i _⟩
    have := ownsRow_sorted_i (n := k) (os := os) (ts := ss.mergeSort fun x y => decide (x ≤ y)) (ss := ss) (by simp) hbase hgb (by omega) r2 (by simpa using r3)
    rw [hlen] at this
    exact this

theorem run_append_int {w : World} {base n b : Nat} {v : Value} {L : List Int} {x : Int} (ty : TypeId) (hown : w.ownsRow base 3 1 v n (L.map (Value.int .i64))) (hb : w.heap[b]? = some (.cells #[.int .i64 x] 3 (0, 0))) (h63 : n ≤ 1000000) (hbase : base ≤ w.heap.size) :
    ∃ v' w', (Builtin.append_ #[34, 34] ty #[v, .slice (some ⟨b, 0, none⟩) 1 1]).run Try.prog w = .ok v' w' ∧ w'.ownsRow base 3 1 v' (n + 1) ((L ++ [x]).map (Value.int .i64)) ∧ w.grownBy w' v.ownBlock ∧ (v'.ownBlock = v.ownBlock ∨ v'.ownBlock = some w.heap.size) := by
  obtain ⟨i, hi, hz, hs, hbt⟩ := info_parts' int_info
  obtain ⟨v', w', h1, h2, h3, _, h5⟩ := run_append_own_at (P := Try.prog) (w := w) base 34 ty 3 i _ 1 8 Try.underlying34 hi hz hs hbt rfl (by decide) v n _ hown ⟨b, 0, none⟩ 1 1 [.int .i64 x] rfl (World.news_of_block (cs := #[.int .i64 x]) hb) (by intro u hu; rw [List.mem_singleton.mp hu]; rfl) (by unfold maxLen; omega) (by omega) hbase
  refine ⟨v', w', h1, ?_, h3, h5⟩
  rw [List.map_append]
  exact h2

theorem wpList_append_int {w : World} {ops : Array Oper} {rest : List Oper} {o : Oper} {a : Act} {Q : Exit → Act → World → Prop} (hgd : o.guard = none) (s x : Operand) (ho : o.op = .call { callee := .builtin .append, args := #[s, x], argTypes := #[34, 34] })
    {base n b : Nat} {v : Value} {L : List Int} {k : Int} (hs : a.eval s = v) (hx : a.eval x = .slice (some ⟨b, 0, none⟩) 1 1) (hown : w.ownsRow base 3 1 v n (L.map (Value.int .i64))) (hb : w.heap[b]? = some (.cells #[.int .i64 k] 3 (0, 0))) (h63 : n ≤ 1000000) (hbase : base ≤ w.heap.size)
    (h : ∀ v' w', w'.ownsRow base 3 1 v' (n + 1) ((L ++ [k]).map (Value.int .i64)) → w.grownBy w' v.ownBlock → (v'.ownBlock = v.ownBlock ∨ v'.ownBlock = some w.heap.size) → wpList Try.prog ops Q rest (a.put o.dst v') w') : wpList Try.prog ops Q (o :: rest) a w := by
  obtain ⟨v', w', hr, h1, h2, h3⟩ := run_append_int o.type hown hb h63 hbase
  exact Lib.wpList_append_run w hgd s x _ _ ho v _ hs hx v' w' hr (h v' w' h1 h2 h3)

/-- A sorted list of numbers, each once. -/
theorem sort_set {L : List Int} (hn : L.Nodup) : L.mergeSort (fun x y => decide (x ≤ y)) = setK KI L := by
  refine setK_eq KI (ints_strict ?_) fun a => (List.mergeSort_perm L _).mem_iff
  have h1 : (L.mergeSort (fun x y => decide (x ≤ y))).Pairwise fun x y => decide (x ≤ y) = true := List.pairwise_mergeSort (le := fun x y : Int => decide (x ≤ y)) (fun a b c h1 h2 => by simp at *; omega) (fun a b => by simp; omega) L
  have h2 : (L.mergeSort (fun x y => decide (x ≤ y))).Nodup := (List.mergeSort_perm L _).nodup_iff.mpr hn
  exact (h1.and h2).imp fun h => by have := h.1; have := h.2; simp at *; omega
end Go.Proofs.Ytpmoelkblngamaa
