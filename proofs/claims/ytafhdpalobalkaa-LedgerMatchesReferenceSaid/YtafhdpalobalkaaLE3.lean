/- ledger: a ledger that takes bookings one after the other; what its balances sum up to: plain; the state of the laws' walks. -/
import Derived.Test.YtafhdpalobalkaaLE2
namespace Go.Proofs.Ytafhdpalobalkaa
open Go.RowKit Go.IntWalk

/-- The bookings that are added, of those that came in. -/
def runS (Bs : List BookT) : List BookT := Bs.foldl bookS []

theorem runS_take {Bs : List BookT} {i : Nat} (hi : i < Bs.length) : runS (Bs.take (i + 1)) = bookS (runS (Bs.take i)) Bs[i] := by
  unfold runS
  rw [List.take_succ_eq_append_getElem hi, List.foldl_append]
  rfl

theorem bookS_len (As : List BookT) (b : BookT) : (bookS As b).length ≤ As.length + 1 := by
  unfold bookS
  split
  · simp
  · omega

theorem runS_len : ∀ (Bs : List BookT) (As : List BookT), (Bs.foldl bookS As).length ≤ As.length + Bs.length := by
  intro Bs
  induction Bs with
  | nil => intro As; simp
  | cons b Bs ih =>
    intro As
    have h1 := ih (bookS As b)
    have h2 := bookS_len As b
    rw [List.foldl_cons, List.length_cons]
    omega

theorem runS_le (Bs : List BookT) : (runS Bs).length ≤ Bs.length := by
  have := runS_len Bs []
  unfold runS
  simpa using this

theorem bookE_zero {Bs : List BookT} {b : BookT} (he : bookE Bs b = 0) : zeroE b.2 = 0 := by
  have h1 := bookE_form he
  unfold bookE at he
  rw [if_neg (by omega)] at he
  by_cases h2 : zeroE b.2 = 0
  · exact h2
  · rw [if_pos h2] at he; exact he

theorem bookE_formed {Bs : List BookT} {b : BookT} (he : bookE Bs b = 0) : formedS b = true := formE_0 (bookE_form he)

theorem run_all : ∀ (Bs As : List BookT), (∀ b ∈ As, formedS b = true ∧ zeroE b.2 = 0) → ∀ b ∈ Bs.foldl bookS As, formedS b = true ∧ zeroE b.2 = 0 := by
  intro Bs
  induction Bs with
  | nil => intro As h; exact h
  | cons x Bs ih =>
    intro As h
    refine ih _ (fun b hb => ?_)
    unfold bookS at hb
    split at hb
    · rename_i he
      rcases List.mem_append.mp hb with hb | hb
      · exact h b hb
      · rw [List.mem_singleton.mp hb]
        exact ⟨bookE_formed he, bookE_zero he⟩
    · exact h b hb

theorem runS_all (Bs : List BookT) : ∀ b ∈ runS Bs, formedS b = true ∧ zeroE b.2 = 0 := run_all Bs [] (fun b hb => by simp at hb)

/-! ### Sums -/
def sumAm (L : List PostT) : Int := (L.map (·.2)).sum

theorem sumAm_cons (x : PostT) (L : List PostT) : sumAm (x :: L) = x.2 + sumAm L := by unfold sumAm; rw [List.map_cons, List.sum_cons]

theorem sumAm_add : ∀ (L : List PostT) (p : PostT), sumAm (addS L p) = sumAm L + p.2
  | [], p => by
    rw [addS]
    split
    · rename_i h; rw [h]; rfl
    · rw [sumAm_cons]; show p.2 + 0 = 0 + p.2; omega
  | x :: L, p => by
    have ih := sumAm_add L p
    rw [addS]
    split
    · rw [sumAm_cons, sumAm_cons, ih]; omega
    · split
      · split
        · rw [sumAm_cons]; omega
        · rw [sumAm_cons, sumAm_cons]; dsimp only; omega
      · split
        · rw [sumAm_cons]; omega
        · rw [sumAm_cons, sumAm_cons]; omega

def totR (l : List PostT) : Nat → Int
  | 0 => 0
  | i + 1 => totR l i + pa l i

theorem totW_eq {l : List PostT} (hl : ∀ i, i < l.length → -1000000000 ≤ pa l i ∧ pa l i ≤ 1000000000) : ∀ i, i ≤ l.length → i ≤ 1000 → totW l i = totR l i ∧ -1000000000 * (i : Int) ≤ totR l i ∧ totR l i ≤ 1000000000 * (i : Int) := by
  intro i
  induction i with
  | zero => intro _ _; exact ⟨rfl, by show _ ≤ (0 : Int); omega, by show (0 : Int) ≤ _; omega⟩
  | succ i ih =>
    intro h h'
    obtain ⟨h1, h2, h3⟩ := ih (by omega) (by omega)
    have h4 := hl i (by omega)
    have h5 : totR l (i + 1) = totR l i + pa l i := rfl
    refine ⟨?_, by omega, by omega⟩
    show IntKind.i64.wrap (totW l i + pa l i) = _
    rw [h1, h5]
    exact i64_in _ (by omega)

theorem zero_tot {b : BookT} (hf : formedS b = true) (hz : zeroE b.2 = 0) : totR b.2 b.2.length = 0 := by
  have h1 := formed_len hf
  have h2 := (totW_eq (fun i hi => formed_amt hf hi) b.2.length (Nat.le_refl _) (by omega)).1
  unfold zeroE isE at hz
  split at hz
  · omega
  · rename_i h
    simp only [bne_iff_ne, ne_eq, Decidable.not_not] at h
    omega

theorem isBal_sum {l : List PostT} : ∀ (i : Nat) {L : List PostT} {f : AccT → Int}, IsBal L f → ∃ L', IsBal L' (sumF f l i) ∧ sumAm L' = sumAm L + totR l i := by
  intro i
  induction i with
  | zero => intro L f h; exact ⟨L, h, by show _ = _ + (0 : Int); omega⟩
  | succ i ih =>
    intro L f h
    obtain ⟨L', h1, h2⟩ := ih h
    refine ⟨addS L' ((pk l i, pn l i), pa l i), add_isBal _ h1, ?_⟩
    rw [sumAm_add, h2]
    show _ = _ + (totR l i + pa l i)
    dsimp only
    omega

theorem bal_zero : ∀ (Bs : List BookT) {L : List PostT} {f : AccT → Int}, IsBal L f → (∀ b ∈ Bs, formedS b = true ∧ zeroE b.2 = 0) → ∃ L', IsBal L' (Bs.foldl (fun f b => sumF f b.2 b.2.length) f) ∧ sumAm L' = sumAm L := by
  intro Bs
  induction Bs with
  | nil => intro L f h _; exact ⟨L, h, rfl⟩
  | cons b Bs ih =>
    intro L f h hb
    obtain ⟨L1, h1, h2⟩ := isBal_sum (l := b.2) b.2.length h
    have h3 := hb b (List.mem_cons_self ..)
    rw [zero_tot h3.1 h3.2] at h2
    obtain ⟨L2, h4, h5⟩ := ih h1 (fun x hx => hb x (List.mem_cons_of_mem _ hx))
    exact ⟨L2, h4, by rw [h5, h2]; omega⟩

/-- The balances sum up to 0. -/
theorem balances_zero {Bs : List BookT} {L : List PostT} (h : ∀ b ∈ Bs, formedS b = true ∧ zeroE b.2 = 0) (hL : IsBal L (balS Bs)) : sumAm L = 0 := by
  obtain ⟨L', h1, h2⟩ := bal_zero Bs isBal_nil h
  rw [hL.unique h1, h2]
  rfl

/-- The sums of the first amounts. -/
def totA (L : List PostT) (i : Nat) : Int := totR L i

theorem totR_sum : ∀ (L : List PostT), totR L L.length = sumAm L := by
  intro L
  have key : ∀ i, i ≤ L.length → totR L i = sumAm (L.take i) := by
    intro i
    induction i with
    | zero => intro _; rfl
    | succ i ih =>
      intro h
      rw [List.take_succ_eq_append_getElem (by omega)]
      show totR L i + pa L i = _
      rw [ih (by omega), pa_eq L i (by omega)]
      unfold sumAm
      rw [List.map_append, List.sum_append]
      simp
  rw [key _ (Nat.le_refl _), List.take_of_length_le (Nat.le_refl _)]

/-! ### The state of the laws' walks -/
/-- A ledger of the call's own. -/
structure OneSt (w wr : World) (g : Nat) (Bs : List BookT) : Prop where
  below : Below w.heap.size w wr
  led : ∃ S : Nat → Prop, LedAt wr S g Bs ∧ ∀ i, S i → w.heap.size ≤ i

theorem OneSt.step {w wr wx : World} {g : Nat} {Bs : List BookT} (k : OneSt w wr g Bs) (hb : Below wr.heap.size wr wx) : OneSt w wx g Bs := by
  obtain ⟨S, h1, h2⟩ := k.led
  exact ⟨k.below.trans (hb.mono k.below.size), S, h1.below hb, h2⟩

theorem OneSt.drew {w wr : World} {g : Nat} {Bs : List BookT} (k : OneSt w wr g Bs) : OneSt w wr.drew g Bs := k.step ((Below.refl _ _).drew)

theorem OneSt.start {w w1 : World} {g : Nat} (b1 : Below w.heap.size w w1) (l1 : LedAt w1 (Fresh w.heap.size w1.heap.size) g []) : OneSt w w1 g [] := ⟨b1, _, l1, fun _ hi => hi.1⟩

theorem OneSt.ok {w wr : World} {g : Nat} {Bs : List BookT} (k : OneSt w wr g Bs) : BsOk Bs := let ⟨_, h1, _⟩ := k.led; h1.ok

theorem OneSt.book {w wr : World} {g : Nat} {Bs : List BookT} (k : OneSt w wr g Bs) (id : Int) (ra : Option Addr) (n c : Nat) (l : List PostT) (hl : Bs.length < 100) (hn : n ≤ 9223372036854775807) (hP : Posts wr ra n l) (hw : ∀ i, i < l.length → (pn l i).length ≤ maxLen ∧ (Lit.int .i64 (pk l i)).wf = true) :
    Calls Try.prog 12 #[.pointer (some ⟨g, 0, none⟩), .agg #[.int .i64 id, .slice ra n c]] wr fun e w' => e = .returned (.int .i64 (bookE Bs (id, l))) ∧ OneSt w w' g (bookS Bs (id, l)) := by
  obtain ⟨S, h1, h2⟩ := k.led
  refine (book_any S g Bs id ra n c l wr h1 hl hn hP hw).mono ?_
  rintro e w' ⟨rfl, hu, S', h5, h6⟩
  refine ⟨rfl, hu.below k.below h2, S', h5, fun i hi => ?_⟩
  rcases h6 i hi with h7 | h7
  · exact h2 i h7
  · exact Nat.le_trans k.below.size h7

/-- .. with the balances and the bookings that it gave. -/
structure ZSt (w wr : World) (g : Nat) (As : List BookT) (la : Option Addr) (n : Nat) (L : List PostT) (lb : Option Addr) (k : Nat) (Cs : List BookT) : Prop where
  one : OneSt w wr g As
  posts : Posts wr la n L
  books : Books wr lb k Cs

theorem Books.none (w : World) : Books w none 0 [] := ⟨[], Recs.none _, rfl, fun i h1 => absurd h1 (Nat.not_lt_zero _)⟩

section
variable {w wr wx : World} {g n k : Nat} {As Cs : List BookT} {la lb : Option Addr} {L : List PostT}

theorem ZSt.start (h : OneSt w wr g As) : ZSt w wr g As none 0 [] none 0 [] := ⟨h, Recs.none _, Books.none _⟩

theorem ZSt.step (h : ZSt w wr g As la n L lb k Cs) (hb : Below wr.heap.size wr wx) : ZSt w wx g As la n L lb k Cs := ⟨h.one.step hb, h.posts.below hb, h.books.below hb⟩

theorem ZSt.drew (h : ZSt w wr g As la n L lb k Cs) : ZSt w wr.drew g As la n L lb k Cs := h.step ((Below.refl _ _).drew)

theorem ZSt.balances (h : ZSt w wr g As la n L lb k Cs) :
    Calls Try.prog 15 #[.pointer (some ⟨g, 0, none⟩)] wr fun e w' => ∃ la' n' c' L', e = .returned (.slice la' n' c') ∧ ZSt w w' g As la n L lb k Cs ∧ Posts w' la' n' L' ∧ IsBal L' (balS As) ∧ n' ≤ 2000 := by
  obtain ⟨S, h1, h2⟩ := h.one.led
  refine (balances_any S g As wr h1 h1.ok.wf).mono ?_
  rintro e w' ⟨la', n', c', L', rfl, hb, ho, hi, hn⟩
  exact ⟨la', n', c', L', rfl, h.step hb, ho.recs, hi, hn⟩

theorem ZSt.balance (h : ZSt w wr g As la n L lb k Cs) (x : Int) (t : Name) (ha : WfA (x, t)) (wx : World) (hx : Below wr.heap.size wr wx) :
    Calls Try.prog 17 #[.pointer (some ⟨g, 0, none⟩), .agg #[.int .i64 x, .string (bs t)]] wx fun e w' => e = .returned (.int .i64 (balS As (x, t))) ∧ Below wr.heap.size wr w' := by
  obtain ⟨S, h1, h2⟩ := (h.step hx).one.led
  refine (balance_any S g As x t wx h1 ha).mono ?_
  rintro e w' ⟨rfl, hb⟩
  exact ⟨rfl, hx.trans (hb.mono hx.size)⟩

theorem ZSt.bookings (h : ZSt w wr g As la n L lb k Cs) :
    Calls Try.prog 20 #[.pointer (some ⟨g, 0, none⟩)] wr fun e w' => ∃ lb' k' c', e = .returned (.slice lb' k' c') ∧ ZSt w w' g As la n L lb k Cs ∧ Books w' lb' k' As := by
  obtain ⟨S, h1, h2⟩ := h.one.led
  refine (bookings_any S g As wr h1).mono ?_
  rintro e w' ⟨lb', k', c', rfl, hb, hB⟩
  exact ⟨lb', k', c', rfl, h.step hb, hB⟩

theorem ZSt.before (a b : AccT) (wx : World) (hx : Below wr.heap.size wr wx) :
    Calls Try.prog 22 #[.agg #[.int .i64 a.1, .string (bs a.2)], .agg #[.int .i64 b.1, .string (bs b.2)]] wx fun e w' => e = .returned (.bool (befA a b)) ∧ Below wr.heap.size wr w' := by
  refine (before_any a.1 b.1 a.2 b.2 wx).mono ?_
  rintro e w' ⟨rfl, hb⟩
  exact ⟨rfl, hx.trans (hb.mono hx.size)⟩

theorem ZSt.posted (h : ZSt w wr g As la n L lb k Cs) (c : Nat) (x : Int) (t : Name) (hl : Cs.length ≤ 100) (hf : ∀ b ∈ Cs, formedS b = true) (wx : World) (hx : Below wr.heap.size wr wx) :
    Calls Try.prog 23 #[.slice lb k c, .agg #[.int .i64 x, .string (bs t)]] wx fun e w' => e = .returned (.int .i64 (balS Cs (x, t))) ∧ Below wr.heap.size wr w' := by
  refine (posted_any lb k c Cs x t wx (h.books.below hx) hl hf).mono ?_
  rintro e w' ⟨rfl, hb⟩
  exact ⟨rfl, hx.trans (hb.mono hx.size)⟩
end
end Go.Proofs.Ytafhdpalobalkaa
