/- ledger: two ledgers side by side. -/
import Derived.Test.YtafhdpalobalkaaLD1
namespace Go.Proofs.Ytafhdpalobalkaa
open Go.RowKit Go.IntWalk

theorem LedAt.lt {w : World} {S : Nat → Prop} {g : Nat} {Bs : List BookT} (h : LedAt w S g Bs) : ∀ i, S i → i < w.heap.size := let ⟨_, _, _, _, _, _, hc⟩ := h; hc.lt

theorem LedAt.ok {w : World} {S : Nat → Prop} {g : Nat} {Bs : List BookT} (h : LedAt w S g Bs) : BsOk Bs := let ⟨_, _, _, _, _, _, hc⟩ := h; hc.ok

/-- Two ledgers of the call's own, apart. -/
structure TwoSt (w wr : World) (g h : Nat) (As Bs : List BookT) : Prop where
  below : Below w.heap.size w wr
  leds : ∃ S T : Nat → Prop, LedAt wr S g As ∧ LedAt wr T h Bs ∧ (∀ i, S i → w.heap.size ≤ i ∧ ¬ T i) ∧ (∀ i, T i → w.heap.size ≤ i)

theorem TwoSt.step {w wr wx : World} {g h : Nat} {As Bs : List BookT} (k : TwoSt w wr g h As Bs) (hb : Below wr.heap.size wr wx) : TwoSt w wx g h As Bs := by
  obtain ⟨S, T, h1, h2, h3, h4⟩ := k.leds
  exact ⟨k.below.trans (hb.mono k.below.size), S, T, h1.below hb, h2.below hb, h3, h4⟩

theorem TwoSt.swap {w wr : World} {g h : Nat} {As Bs : List BookT} (k : TwoSt w wr g h As Bs) : TwoSt w wr h g Bs As := by
  obtain ⟨S, T, h1, h2, h3, h4⟩ := k.leds
  exact ⟨k.below, T, S, h2, h1, fun i hi => ⟨h4 i hi, fun hs => (h3 i hs).2 hi⟩, fun i hi => (h3 i hi).1⟩

theorem TwoSt.book {w wr : World} {g h : Nat} {As Bs : List BookT} (k : TwoSt w wr g h As Bs) (id : Int) (ra : Option Addr) (n c : Nat) (l : List PostT) (hl : As.length < 100) (hn : n ≤ 9223372036854775807) (hP : Posts wr ra n l) (hw : ∀ i, i < l.length → (pn l i).length ≤ maxLen ∧ (Lit.int .i64 (pk l i)).wf = true) :
    Calls Try.prog 12 #[.pointer (some ⟨g, 0, none⟩), .agg #[.int .i64 id, .slice ra n c]] wr fun e w' => e = .returned (.int .i64 (bookE As (id, l))) ∧ TwoSt w w' g h (bookS As (id, l)) Bs := by
  obtain ⟨S, T, h1, h2, h3, h4⟩ := k.leds
  refine (book_any S g As id ra n c l wr h1 hl hn hP hw).mono ?_
  rintro e w' ⟨rfl, hu, S', h5, h6⟩
  refine ⟨rfl, hu.below k.below (fun i hi => (h3 i hi).1), S', T, h5, h2.keep hu (fun i hi hs => (h3 i hs).2 hi), fun i hi => ?_, h4⟩
  rcases h6 i hi with h7 | h7
  · exact h3 i h7
  · exact ⟨Nat.le_trans k.below.size h7, fun ht => by have := h2.lt i ht; omega⟩

theorem TwoSt.balances {w wr : World} {g h : Nat} {As Bs : List BookT} (k : TwoSt w wr g h As Bs) :
    Calls Try.prog 15 #[.pointer (some ⟨g, 0, none⟩)] wr fun e w' => ∃ la n c L, e = .returned (.slice la n c) ∧ TwoSt w w' g h As Bs ∧ Posts w' la n L ∧ IsBal L (balS As) ∧ n ≤ 2000 := by
  obtain ⟨S, T, h1, h2, h3, h4⟩ := k.leds
  refine (balances_any S g As wr h1 h1.ok.wf).mono ?_
  rintro e w' ⟨la, n, c, L, rfl, hb, ho, hi, hn⟩
  exact ⟨la, n, c, L, rfl, k.step hb, ho.recs, hi, hn⟩
end Go.Proofs.Ytafhdpalobalkaa
