/- ledger: the head of the laws: the walk. -/
import Derived.Deep.RegionWith
import Derived.Test.YtafhdpalobalkaaLC2
namespace Go.Proofs.Ytafhdpalobalkaa
open Go.RowKit Go.IntWalk

/-- Under way in the head: a ledger of the call's own, and the first posting in its box. -/
structure HeadSt (w wr : World) (g bx : Nat) (Bs : List BookT) : Prop where
  below : Below w.heap.size w wr
  led : ∃ S : Nat → Prop, LedAt wr S g Bs ∧ (∀ i, S i → w.heap.size ≤ i) ∧ ¬ S bx
  box : wr.heap[bx]? = some (.cells (PostE.cells hp1).toArray 44 (0, 0))
  new : w.heap.size ≤ bx

theorem HeadSt.lt {w wr : World} {g bx : Nat} {Bs : List BookT} (h : HeadSt w wr g bx Bs) : bx < wr.heap.size := lt_of_block h.box

theorem HeadSt.step {w wr wx : World} {g bx : Nat} {Bs : List BookT} (h : HeadSt w wr g bx Bs) (hb : Below wr.heap.size wr wx) : HeadSt w wx g bx Bs := by
  obtain ⟨S, h1, h2, h3⟩ := h.led
  exact ⟨h.below.trans (hb.mono h.below.size), ⟨S, h1.below hb, h2, h3⟩, (hb.block bx h.lt).trans h.box, h.new⟩

theorem HeadSt.book {w wr : World} {g bx : Nat} {Bs : List BookT} (h : HeadSt w wr g bx Bs) (id : Int) (ra : Option Addr) (n c : Nat) (l : List PostT) (hl : Bs.length < 100) (hn : n ≤ 9223372036854775807) (hP : Posts wr ra n l) (hw : ∀ i, i < l.length → (pn l i).length ≤ maxLen ∧ (Lit.int .i64 (pk l i)).wf = true) :
    Calls Try.prog 12 #[.pointer (some ⟨g, 0, none⟩), .agg #[.int .i64 id, .slice ra n c]] wr fun e w' => e = .returned (.int .i64 (bookE Bs (id, l))) ∧ HeadSt w w' g bx (bookS Bs (id, l)) := by
  obtain ⟨S, h1, h2, h3⟩ := h.led
  refine (book_any S g Bs id ra n c l wr h1 hl hn hP hw).mono ?_
  rintro e w' ⟨rfl, hu, S', h4, h5⟩
  refine ⟨rfl, hu.below h.below h2, ⟨S', h4, fun i hi => ?_, fun hi => ?_⟩, (hu.block bx h.lt h3).trans h.box, h.new⟩
  · rcases h5 i hi with h6 | h6
    · exact h2 i h6
    · have := h.below.size; omega
  · rcases h5 bx hi with h6 | h6
    · exact h3 h6
    · have := h.lt; omega

/-- Two postings, new in a row. -/
theorem posts_two {w : World} {b : Nat} {x y : PostT} (h : w.heap[b]? = some (.cells #[.int .i64 x.1.1, .string (bs x.1.2), .int .i64 x.2, .int .i64 y.1.1, .string (bs y.1.2), .int .i64 y.2] 44 (0, 0))) : Posts w (some ⟨b, 0, none⟩) 2 [x, y] := by
  refine ⟨rfl, fun i hi => ⟨b, 0, rfl, fun j hj => ?_⟩⟩
  rw [cell_of_row _ _ _ _ _ _ h, rc_eq _ _ (by simpa using hi)]
  have h1 : i = 0 ∨ i = 1 := by omega
  have h2 : j = 0 ∨ j = 1 ∨ j = 2 := by omega
  rcases h1 with rfl | rfl <;> rcases h2 with rfl | rfl | rfl <;> rfl

theorem posts_one {w : World} {b : Nat} {x : PostT} (h : w.heap[b]? = some (.cells #[.int .i64 x.1.1, .string (bs x.1.2), .int .i64 x.2] 44 (0, 0))) : Posts w (some ⟨b, 0, none⟩) 1 [x] := by
  refine ⟨rfl, fun i hi => ⟨b, 0, rfl, fun j hj => ?_⟩⟩
  rw [cell_of_row _ _ _ _ _ _ h, rc_eq _ _ (by simpa using hi)]
  have h1 : i = 0 := by omega
  have h2 : j = 0 ∨ j = 1 ∨ j = 2 := by omega
  subst h1
  rcases h2 with rfl | rfl | rfl <;> rfl

theorem HeadSt.drew {w wr : World} {g bx : Nat} {Bs : List BookT} (h : HeadSt w wr g bx Bs) : HeadSt w wr.drew g bx Bs := h.step ((Below.refl _ _).drew)

theorem HeadSt.balances {w wr : World} {g bx : Nat} {Bs : List BookT} (h : HeadSt w wr g bx Bs) {L0 : List PostT} (h0 : IsBal L0 (balS Bs)) :
    Calls Try.prog 15 #[.pointer (some ⟨g, 0, none⟩)] wr fun e w' => ∃ la k c, e = .returned (.slice la k c) ∧ HeadSt w w' g bx Bs ∧ Posts w' la k L0 := by
  obtain ⟨S, h1, h2, h3⟩ := h.led
  have hok : BsOk Bs := by obtain ⟨_, _, _, _, _, _, hc⟩ := h1; exact hc.ok
  refine (balances_any S g Bs wr h1 hok.wf).mono ?_
  rintro e w' ⟨la, k, c, L, rfl, hb, ho, hi, _⟩
  rw [hi.unique h0] at ho
  exact ⟨la, k, c, rfl, h.step hb, ho.recs⟩

theorem HeadSt.balance {w wr : World} {g bx : Nat} {Bs : List BookT} (h : HeadSt w wr g bx Bs) (k : Int) (t : Name) (ha : WfA (k, t)) :
    Calls Try.prog 17 #[.pointer (some ⟨g, 0, none⟩), .agg #[.int .i64 k, .string (bs t)]] wr fun e w' => e = .returned (.int .i64 (balS Bs (k, t))) ∧ HeadSt w w' g bx Bs := by
  obtain ⟨S, h1, h2, h3⟩ := h.led
  refine (balance_any S g Bs k t wr h1 ha).mono ?_
  rintro e w' ⟨rfl, hb⟩
  exact ⟨rfl, h.step hb⟩

theorem HeadSt.bookings {w wr : World} {g bx : Nat} {Bs : List BookT} (h : HeadSt w wr g bx Bs) :
    Calls Try.prog 20 #[.pointer (some ⟨g, 0, none⟩)] wr fun e w' => ∃ la k c, e = .returned (.slice la k c) ∧ HeadSt w w' g bx Bs ∧ k = Bs.length := by
  obtain ⟨S, h1, h2, h3⟩ := h.led
  refine (bookings_any S g Bs wr h1).mono ?_
  rintro e w' ⟨la, k, c, rfl, hb, hB⟩
  exact ⟨la, k, c, rfl, h.step hb, hB.len.symm⟩

theorem HeadSt.c0 {w wr : World} {g bx : Nat} {Bs : List BookT} (h : HeadSt w wr g bx Bs) : wr.cell? ⟨bx, 0, none⟩ = some (.int .i64 5) := by rw [cell_of_row _ _ _ _ _ _ h.box]; rfl
theorem HeadSt.c1 {w wr : World} {g bx : Nat} {Bs : List BookT} (h : HeadSt w wr g bx Bs) : wr.cell? ⟨bx, 1, none⟩ = some (.string (bs cardN)) := by rw [cell_of_row _ _ _ _ _ _ h.box]; rfl
theorem HeadSt.c2 {w wr : World} {g bx : Nat} {Bs : List BookT} (h : HeadSt w wr g bx Bs) : wr.cell? ⟨bx, 2, none⟩ = some (.int .i64 (-500)) := by rw [cell_of_row _ _ _ _ _ _ h.box]; rfl
end Go.Proofs.Ytafhdpalobalkaa
