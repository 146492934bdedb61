/- ledger: Bookings: the walk; Book and Balance of no ledger. -/
import Derived.Maps.AppendAt
import Derived.Lib.SliceRun
import Derived.RegionTactic
import Derived.BigRegion
import Derived.Test.YtafhdpalobalkaaLB9
namespace Go.Proofs.Ytafhdpalobalkaa
open Go.RowKit Go.IntWalk Go.Maps Go.ChangeMaps

set_option maxRecDepth 10000 in
theorem clone_books (ra : Option Addr) (n c : Nat) (l : List RawT) (w : World) (hM : Recs RawE w ra n l) (hn : n ≤ 1000) :
    Calls Try.prog 42 #[.slice ra n c] w fun e w' => ∃ la k c', e = .returned (.slice la k c') ∧ Below w.heap.size w w' ∧ OwnRecs RawE w' w.heap.size 34 la k l := by
  have hlen := hM.1
  cases ra with
  | none =>
    have h0 : n = 0 := by
      rcases Nat.eq_zero_or_pos n with h | h
      · exact h
      · obtain ⟨b, o, e, _⟩ := hM.2 0 h; simp at e
    have hl : l = [] := List.length_eq_zero_iff.mp (by omega)
    subst hl
    subst h0
    have hnil := fun w => Lib.run_eql_slice_nil (P := Try.prog) w 22 34 none 0 c 0 0 Try.underlying22
    go_enter Try.func42, Try.ntmps42
    go_wp2_with fail
    go_ret
    exact ⟨none, 0, 0, rfl, Below.refl _ _, ⟨rfl, fun h => absurd h (Nat.lt_irrefl _)⟩⟩
  | some ad =>
    have hnil := fun w => Lib.run_eql_slice_nil (P := Try.prog) w 22 34 (some ad) n c 0 0 Try.underlying22
    have HM := Lib.hid (hM.below (Joins.below_alloc1 w (.cells #[] 34)))
    clear hM
    obtain ⟨i1, hj, hj0, hj1, hj2⟩ := info_parts info_book
    have HOW := Lib.hid (World.ownsRow_made (e := 34) (size := 2) w #[] 0 (Nat.le_refl _) (by unfold maxLen; omega) rfl)
    have hfl : (flat RawE l).length = n * 2 := by rw [flat_len, hlen]
    have HFC := Lib.hid (flat_cells HM.out)
    go_enter Try.func42, Try.ntmps42
    go_wp2_with (at_builtin; refine wpList_append_own _ rfl _ _ 22 rfl w.heap.size 34 i1 _ 2 32 Try.underlying22 hj hj0 hj1 hj2 rfl (by decide) _ 0 [] rfl HOW.out ad n c (flat RawE l) rfl hfl HFC.out flat_one (by unfold maxLen; omega) (by omega) (by simp) ?_; skip)
    intro v' w3 hown' hgrow _
    have HN := Lib.hid (And.intro hown' hgrow)
    clear hown' hgrow
    obtain ⟨la, c', rfl, ho⟩ := OwnRecs.of_row HN.out.1
    have HO := Lib.hid ho
    clear ho
    go_wp2_with fail
    go_ret
    exact ⟨la, n, c', rfl, ((Below.refl _ _).alloc (Nat.le_refl _) _).grown HN.out.2 (by simp) (fun k hk => by simp [Value.ownBlock] at hk; omega), HO.out⟩


theorem LedC.recs {w : World} {S : Nat → Prop} {g : Nat} {Bs : List BookT} {la : Option Addr} {n c M I : Nat} {rs : List RawT} (h : LedC w S g Bs la n c M I rs) : Recs RawE w la n rs := by
  obtain ⟨la', c', e, ho⟩ := OwnRecs.of_row h.row
  cases e
  exact ho.recs

set_option maxRecDepth 10000 in
theorem bookings_any (S : Nat → Prop) (g : Nat) (Bs : List BookT) (w : World) (hL : LedAt w S g Bs) :
    Calls Try.prog 20 #[.pointer (some ⟨g, 0, none⟩)] w fun e w' => ∃ la k c, e = .returned (.slice la k c) ∧ Below w.heap.size w w' ∧ Books w' la k Bs := by
  obtain ⟨la, n, cc, M, I, rs, hc⟩ := hL
  have HC := Lib.hid hc
  have g0 : w.cell? ⟨g, 0, none⟩ = some (.slice la n cc) := by rw [cell_of_row _ _ _ _ _ _ hc.box]; rfl
  have hn : n ≤ 1000 := by have := hc.num.1; have := hc.ok.len; omega
  clear hc
  go_enter Try.func20, Try.ntmps20
  go_wp2_with fail
  change Calls Try.prog 42 _ _ _
  refine (clone_books la n cc rs w HC.out.recs hn).mono ?_
  rintro e w2 ⟨lb, k, c', rfl, hb2, ho2⟩
  have HB2 := Lib.hid hb2
  have HO2 := Lib.hid ho2
  clear hb2 ho2
  go_wp2_with fail
  go_ret
  exact ⟨lb, k, c', rfl, HB2.out, rs, HO2.out.recs, HC.out.books.1, fun i h1 h2 => ⟨(HC.out.books.2 i h1 h2).1, ((HC.out.books.2 i h1 h2).2.posts).below HB2.out⟩⟩

theorem book1_nil (lb bb : Nat) (w : World) (hlb : w.heap[lb]? = some (.cells #[.pointer none] 26 (0, 0))) :
    Calls Try.prog 28 #[.pointer (some ⟨lb, 0, none⟩), .pointer (some ⟨bb, 0, none⟩)] w fun e w' => e = .returned (.int .i64 1) ∧ w = w' := by
  have x0 := box_cell hlb
  clear hlb
  go_enter Try.func28, Try.ntmps28
  go_wp2_with fail
  refine (is_any _ _ w).mono ?_
  rintro e w2 ⟨rfl, rfl⟩
  go_wp2_with fail
  go_ret
  exact ⟨rfl, rfl⟩

set_option maxRecDepth 10000 in
theorem first_nil (sb lb nb bb : Nat) (w : World)
    (hsb : w.heap[sb]? = some (.cells #[.func (.func 28) #[] #[.pointer (some ⟨lb, 0, none⟩), .pointer (some ⟨bb, 0, none⟩)], .func (.func 31) #[] #[.pointer (some ⟨bb, 0, none⟩)], .func (.func 32) #[] #[.pointer (some ⟨lb, 0, none⟩), .pointer (some ⟨bb, 0, none⟩)], .func (.func 33) #[] #[.pointer (some ⟨lb, 0, none⟩), .pointer (some ⟨nb, 0, none⟩), .pointer (some ⟨bb, 0, none⟩)]] 60 (0, 0)))
    (hlb : w.heap[lb]? = some (.cells #[.pointer none] 26 (0, 0))) :
    Calls Try.prog 27 #[.slice (some ⟨sb, 0, none⟩) 4 4] w fun e w' => e = .returned (.int .i64 1) ∧ w = w' := by
  have HC := Lib.hid (book1_nil lb bb w hlb)
  have x0 : w.cell? ⟨sb, 0, none⟩ = _ := cell_of_row _ _ _ _ _ _ hsb
  simp only [List.getElem?_toArray, List.getElem?_cons_zero] at x0
  clear hsb hlb
  go_enter Try.func27, Try.ntmps27
  go_wp2_with fail
  go_loopw [8] (fun v8 wr => v8 = .int .i64 0 ∧ w = wr) (fun v8 _ => 4 - (intOf v8).toNat)
  case atStart => exact ⟨rfl, rfl⟩
  case round =>
    obtain ⟨rfl, rfl⟩ := hrel
    go_wp2_with fail
    refine HC.out.mono ?_
    rintro e w1 ⟨rfl, rfl⟩
    go_wp2_with fail
    go_ret
    exact ⟨rfl, rfl⟩

set_option maxRecDepth 10000 in
theorem book_nil (x : Int) (ra : Option Addr) (n c : Nat) (w : World) :
    Calls Try.prog 12 #[.pointer none, .agg #[.int .i64 x, .slice ra n c]] w fun e w' => e = .returned (.int .i64 1) ∧ Below w.heap.size w w' := by
  go_enter Try.func12, Try.ntmps12
  go_wp2_with fail
  have b1 := Joins.below_alloc1 w (.cells #[.pointer none] 26)
  have n1 := World.alloc_heap_new w (.cells #[.pointer none] 26)
  have s1 : (w.alloc (.cells #[.pointer none] 26)).heap.size = w.heap.size + 1 := by simp
  generalize w.alloc (.cells #[.pointer none] 26) = x1 at *
  have b2 := Joins.below_alloc1 x1 (.cells #[.int .i64 x, .slice ra n c] 34)
  have s2 : (x1.alloc (.cells #[.int .i64 x, .slice ra n c] 34)).heap.size = w.heap.size + 2 := by simp [s1]
  generalize x1.alloc (.cells #[.int .i64 x, .slice ra n c] 34) = x2 at *
  have b3 := Joins.below_alloc1 x2 (.cells #[.map none] 52)
  have s3 : (x2.alloc (.cells #[.map none] 52)).heap.size = w.heap.size + 3 := by simp [s2]
  generalize x2.alloc (.cells #[.map none] 52) = x3 at *
  generalize hF : Obj.cells _ _ = F
  have b4 := Joins.below_alloc1 x3 F
  have n4 := World.alloc_heap_new x3 F
  rw [s3] at n4
  generalize x3.alloc F = x4 at *
  have HB : Hid (Below w.heap.size w x4) := b1.trans ((b2.trans ((b3.trans (b4.mono b3.size)).mono b2.size)).mono b1.size)
  have hlb : x4.heap[w.heap.size]? = some (.cells #[.pointer none] 26 (0, 0)) := (b4.block _ (by omega)).trans ((b3.block _ (by omega)).trans ((b2.block _ (by omega)).trans n1))
  refine (first_nil (w.heap.size + 3) w.heap.size (w.heap.size + 2) (w.heap.size + 1) x4 (by rw [n4, ← hF]) hlb).mono ?_
  rintro e w5 ⟨rfl, rfl⟩
  clear b1 b2 b3 b4 n1 n4 hlb hF
  go_wp2_with fail
  go_ret
  exact ⟨rfl, HB.out⟩

theorem balance_nil (k : Int) (t : Name) (w : World) :
    Calls Try.prog 17 #[.pointer none, .agg #[.int .i64 k, .string (bs t)]] w fun e w' => e = .returned (.int .i64 0) ∧ Below w.heap.size w w' := by
  go_enter Try.func17, Try.ntmps17
  go_wp2_with fail
  go_ret
  exact ⟨rfl, Joins.below_alloc1 _ _⟩
end Go.Proofs.Ytafhdpalobalkaa
