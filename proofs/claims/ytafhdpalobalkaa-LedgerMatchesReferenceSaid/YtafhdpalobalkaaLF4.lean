/- ledger: LedgerMatchesReference: both ledgers side by side. -/
import Derived.Test.YtafhdpalobalkaaLF3
namespace Go.Proofs.Ytafhdpalobalkaa
open Go.RowKit Go.IntWalk Go.Maps Go.ChangeMaps

theorem RefAt.ids {w : World} {T : Nat → Prop} {g : Nat} {Bs : List BookT} {rs : List RawT} (h : RefAt w T g Bs rs) : ∀ i (h1 : i < rs.length) (h2 : i < Bs.length), rs[i].1 = Bs[i].1 := let ⟨_, _, _, _, _, hc⟩ := h; hc.ids

/-- How an account lies in two cells. -/
def AccE : Enc AccT 2 := ⟨fun x => [.int .i64 x.1, .string (bs x.2)], fun _ => rfl, fun x v hv => by
  simp only [List.mem_cons, List.not_mem_nil, or_false] at hv
  rcases hv with rfl | rfl <;> rfl, by decide⟩

structure MSt (w wr : World) (g h : Nat) (As Bs : List BookT) (rs : List RawT) : Prop where
  below : Below w.heap.size w wr
  leds : ∃ S T : Nat → Prop, LedAt wr S g As ∧ RefAt wr T h Bs rs ∧ (∀ i, S i → w.heap.size ≤ i ∧ ¬ T i) ∧ (∀ i, T i → w.heap.size ≤ i)
  args : ∀ i (h1 : i < rs.length) (h2 : i < Bs.length), Posts w rs[i].2.1 rs[i].2.2.1 Bs[i].2

section
variable {w wr wx : World} {g h : Nat} {As Bs : List BookT} {rs : List RawT}

theorem MSt.step (k : MSt w wr g h As Bs rs) (hb : Below wr.heap.size wr wx) : MSt w wx g h As Bs rs := by
  obtain ⟨S, T, h1, h2, h3, h4⟩ := k.leds
  exact ⟨k.below.trans (hb.mono k.below.size), ⟨S, T, h1.below hb, h2.below hb, h3, h4⟩, k.args⟩

theorem MSt.drew (k : MSt w wr g h As Bs rs) : MSt w wr.drew g h As Bs rs := k.step ((Below.refl _ _).drew)

theorem MSt.bookA (k : MSt w wr g h As Bs rs) (id : Int) (ra : Option Addr) (n c : Nat) (l : List PostT) (hl : As.length < 100) (hn : n ≤ 9223372036854775807) (hP : Posts w ra n l) (hw : ∀ i, i < l.length → (pn l i).length ≤ maxLen ∧ (Lit.int .i64 (pk l i)).wf = true) :
    Calls Try.prog 12 #[.pointer (some ⟨g, 0, none⟩), .agg #[.int .i64 id, .slice ra n c]] wr fun e w' => e = .returned (.int .i64 (bookE As (id, l))) ∧ MSt w w' g h (bookS As (id, l)) Bs rs := by
  obtain ⟨S, T, h1, h2, h3, h4⟩ := k.leds
  refine (book_any S g As id ra n c l wr h1 hl hn (hP.below k.below) hw).mono ?_
  rintro e w' ⟨rfl, hu, S', h5, h6⟩
  refine ⟨rfl, hu.below k.below (fun i hi => (h3 i hi).1), ⟨S', T, h5, h2.keep hu (fun i hi hs => (h3 i hs).2 hi), fun i hi => ?_, h4⟩, k.args⟩
  rcases h6 i hi with h7 | h7
  · exact h3 i h7
  · exact ⟨Nat.le_trans k.below.size h7, fun ht => by have := h2.lt i ht; omega⟩

theorem MSt.bookB (k : MSt w wr g h As Bs rs) (id : Int) (ra : Option Addr) (n c : Nat) (l : List PostT) (hl : Bs.length < 100) (hn : n ≤ 9223372036854775807) (hP : Posts w ra n l) (hw : ∀ i, i < l.length → (pn l i).length ≤ maxLen ∧ (Lit.int .i64 (pk l i)).wf = true) :
    Calls Try.prog 13 #[.pointer (some ⟨h, 0, none⟩), .agg #[.int .i64 id, .slice ra n c]] wr fun e w' => e = .returned (.int .i64 (bookE Bs (id, l))) ∧ ∃ rs', MSt w w' g h As (bookS Bs (id, l)) rs' := by
  obtain ⟨S, T, h1, h2, h3, h4⟩ := k.leds
  refine (rbook_any T h Bs rs id ra n c l wr h2 hl hn (hP.below k.below) hw).mono ?_
  rintro e w' ⟨rfl, hu, T', rs', h5, h6, h7, h8⟩
  refine ⟨rfl, rs', hu.below k.below h4, ⟨S, T', h1.keep hu (fun i hi hT => (h3 i hi).2 hT), h5, fun i hi => ⟨(h3 i hi).1, fun hT => ?_⟩, fun i hi => ?_⟩, fun i hi1 hi2 => ?_⟩
  · rcases h6 i hT with h9 | h9
    · exact (h3 i hi).2 h9
    · have := h1.lt i hi; omega
  · rcases h6 i hi with h9 | h9
    · exact h4 i h9
    · exact Nat.le_trans k.below.size h9
  · have hlen := h2.len
    by_cases he : bookE Bs (id, l) = 0
    · have hrs := h7 he
      subst hrs
      have hbs : bookS Bs (id, l) = Bs ++ [(id, l)] := by unfold bookS; rw [if_pos he]
      simp only [hbs] at hi2 ⊢
      by_cases hi : i < rs.length
      · rw [List.getElem_append_left hi, List.getElem_append_left (by omega)]
        exact k.args i hi (by omega)
      · have : i = rs.length := by simp at hi1; omega
        subst this
        rw [List.getElem_append_right (Nat.le_refl _), List.getElem_append_right (by omega)]
        simp [hlen]
        exact hP
    · have hrs := h8 he
      subst hrs
      have hbs : bookS Bs (id, l) = Bs := by unfold bookS; rw [if_neg he]
      simp only [hbs] at hi2 ⊢
      exact k.args i hi1 hi2

theorem MSt.balA (k : MSt w wr g h As Bs rs) :
    Calls Try.prog 15 #[.pointer (some ⟨g, 0, none⟩)] wr fun e w' => ∃ la n c L, e = .returned (.slice la n c) ∧ MSt w w' g h As Bs rs ∧ Posts w' la n L ∧ IsBal L (balS As) ∧ n ≤ 2000 := by
  obtain ⟨S, T, h1, _⟩ := k.leds
  refine (balances_any S g As wr h1 h1.ok.wf).mono ?_
  rintro e w' ⟨la, n, c, L, rfl, hb, ho, hi, hn⟩
  exact ⟨la, n, c, L, rfl, k.step hb, ho.recs, hi, hn⟩

theorem MSt.balB (k : MSt w wr g h As Bs rs) :
    Calls Try.prog 16 #[.pointer (some ⟨h, 0, none⟩)] wr fun e w' => ∃ la n c L, e = .returned (.slice la n c) ∧ (wr = w' ∧ Posts wr la n L) ∧ IsBal L (balS Bs) ∧ n ≤ 2000 := by
  obtain ⟨S, T, _, h2, _⟩ := k.leds
  exact rbalances_any T h Bs rs wr h2

theorem MSt.balanceA (k : MSt w wr g h As Bs rs) (x : Int) (t : Name) (ha : WfA (x, t)) (wx : World) (hx : Below wr.heap.size wr wx) :
    Calls Try.prog 17 #[.pointer (some ⟨g, 0, none⟩), .agg #[.int .i64 x, .string (bs t)]] wx fun e w' => e = .returned (.int .i64 (balS As (x, t))) ∧ Below wr.heap.size wr w' := by
  obtain ⟨S, T, h1, _⟩ := (k.step hx).leds
  refine (balance_any S g As x t wx h1 ha).mono ?_
  rintro e w' ⟨rfl, hb⟩
  exact ⟨rfl, hx.trans (hb.mono hx.size)⟩

theorem MSt.balanceB (k : MSt w wr g h As Bs rs) (x : Int) (t : Name) (wx : World) (hx : Below wr.heap.size wr wx) :
    Calls Try.prog 18 #[.pointer (some ⟨h, 0, none⟩), .agg #[.int .i64 x, .string (bs t)]] wx fun e w' => e = .returned (.int .i64 (balS Bs (x, t))) ∧ Below wr.heap.size wr w' := by
  obtain ⟨S, T, _, h2, _⟩ := (k.step hx).leds
  refine (rbalance_any T h Bs rs x t wx h2).mono ?_
  rintro e w' ⟨rfl, hb⟩
  exact ⟨rfl, hx.trans (hb.mono hx.size)⟩

theorem MSt.booksA (k : MSt w wr g h As Bs rs) :
    Calls Try.prog 20 #[.pointer (some ⟨g, 0, none⟩)] wr fun e w' => ∃ la n c, e = .returned (.slice la n c) ∧ MSt w w' g h As Bs rs ∧ Books w' la n As := by
  obtain ⟨S, T, h1, _⟩ := k.leds
  refine (bookings_any S g As wr h1).mono ?_
  rintro e w' ⟨la, n, c, rfl, hb, hB⟩
  exact ⟨la, n, c, rfl, k.step hb, hB⟩

theorem MSt.booksB (k : MSt w wr g h As Bs rs) :
    Calls Try.prog 21 #[.pointer (some ⟨h, 0, none⟩)] wr fun e w' => ∃ la n c, e = .returned (.slice la n c) ∧ wr = w' ∧ Books wr la n Bs := by
  obtain ⟨S, T, _, h2, _⟩ := k.leds
  refine (rbookings_any T h Bs rs wr h2).mono ?_
  rintro e w' ⟨la, n, c, rfl, rfl, hr⟩
  exact ⟨la, n, c, rfl, rfl, rs, hr, h2.len, fun i h1 h2' => ⟨h2.ids i h1 h2', (k.args i h1 h2').below k.below⟩⟩

theorem MSt.okA (k : MSt w wr g h As Bs rs) : BsOk As := let ⟨_, _, h1, _⟩ := k.leds; h1.ok

theorem MSt.start {w1 w2 : World} (b1 : Below w.heap.size w w1) (l1 : LedAt w1 (Fresh w.heap.size w1.heap.size) g []) (b2 : Below w1.heap.size w1 w2) (l2 : RefAt w2 (fun i => i = w1.heap.size) w1.heap.size [] []) : MSt w w2 g w1.heap.size [] [] [] :=
  ⟨b1.trans (b2.mono b1.size), ⟨_, _, l1.below b2, l2, fun i hi => ⟨hi.1, fun ht => by have := hi.2; omega⟩, fun i hi => by rw [hi]; exact b1.size⟩, fun i h1 => absurd h1 (Nat.not_lt_zero _)⟩
end
end Go.Proofs.Ytafhdpalobalkaa
