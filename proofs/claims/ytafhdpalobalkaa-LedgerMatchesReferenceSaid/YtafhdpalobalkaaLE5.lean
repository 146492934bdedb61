/- ledger: the booking with the opposite amounts: plain; a ledger beside balances that were. -/
import Derived.Test.YtafhdpalobalkaaLE4
namespace Go.Proofs.Ytafhdpalobalkaa
open Go.RowKit Go.IntWalk

/-- The opposite postings. -/
def negL (l : List PostT) : List PostT := l.map fun x => (x.1, -x.2)

theorem negL_len (l : List PostT) : (negL l).length = l.length := by simp [negL]

theorem neg_at (l : List PostT) (i : Nat) (h : i < l.length) : pk (negL l) i = pk l i ∧ pn (negL l) i = pn l i ∧ pa (negL l) i = -pa l i := by
  have h' : i < (negL l).length := by rw [negL_len]; exact h
  rw [pk_eq _ _ h', pn_eq _ _ h', pa_eq _ _ h', pk_eq _ _ h, pn_eq _ _ h, pa_eq _ _ h]
  simp [negL]

theorem neg_sum (f : AccT → Int) (l : List PostT) (a : AccT) : ∀ i, i ≤ l.length → sumF f (negL l) i a = f a - sumF (fun _ => 0) l i a := by
  intro i
  induction i with
  | zero => intro _; show f a = f a - 0; omega
  | succ i ih =>
    intro h
    obtain ⟨h1, h2, h3⟩ := neg_at l i (by omega)
    rw [sumF_next, sumF_next, h1, h2, h3, ih (by omega)]
    split <;> omega

theorem neg_back (f : AccT → Int) (l : List PostT) : sumF (sumF f l l.length) (negL l) (negL l).length = f := by
  funext a
  rw [negL_len, neg_sum _ _ _ _ (Nat.le_refl _), sumF_add]
  omega

theorem neg_tot (l : List PostT) : ∀ i, i ≤ l.length → totR (negL l) i = -totR l i := by
  intro i
  induction i with
  | zero => intro _; rfl
  | succ i ih =>
    intro h
    show totR (negL l) i + pa (negL l) i = -(totR l i + pa l i)
    rw [ih (by omega), (neg_at l i (by omega)).2.2]
    omega

theorem neg_formed {b : BookT} {id : Int} (h : formedS b = true) (h1 : 1 ≤ id) (h2 : id ≤ 1000000000) : formedS (id, negL b.2) = true := by
  unfold formedS at h ⊢
  simp only [Bool.and_eq_true, decide_eq_true_eq, Bool.not_eq_true'] at h ⊢
  obtain ⟨_, h4, h5⟩ := h
  refine ⟨⟨h1, h2⟩, by rw [negL_len]; exact h4, ?_⟩
  rw [List.any_eq_false] at h5 ⊢
  intro x hx
  obtain ⟨y, hy, rfl⟩ := List.mem_map.mp hx
  have := h5 y hy
  simp only [Bool.not_eq_true] at this ⊢
  unfold badS at this ⊢
  simp only [Bool.or_eq_false_iff, Bool.not_eq_false', decide_eq_false_iff_not, amtB_iff] at this ⊢
  exact ⟨this.1, by omega, by omega⟩

theorem neg_zero {b : BookT} (hf : formedS b = true) (hz : zeroE b.2 = 0) : zeroE (negL b.2) = 0 := by
  have h1 := formed_len hf
  have h2 : formedS (1, negL b.2) = true := neg_formed hf (by omega) (by omega)
  have h3 := (totW_eq (l := negL b.2) (fun i hi => formed_amt h2 hi) (negL b.2).length (Nat.le_refl _) (by rw [negL_len]; omega)).1
  have h4 := neg_tot b.2 b.2.length (Nat.le_refl _)
  rw [zero_tot hf hz] at h4
  unfold zeroE isE
  rw [h3, negL_len, h4]
  rfl

/-- The opposite booking is added. -/
theorem neg_book {As : List BookT} {b : BookT} {id : Int} (h : BsOk As) (he : bookE As b = 0) (h1 : 1 ≤ id) (h2 : id ≤ 1000000000) (hid : hasId (As ++ [b]) id = false) : bookE (As ++ [b]) (id, negL b.2) = 0 := by
  have hf := bookE_formed he
  have hz := bookE_zero he
  have e1 : formE (id, negL b.2) = 0 := by unfold formE isE; rw [neg_formed hf h1 h2]; rfl
  have e2 : zeroE (id, negL b.2).2 = 0 := neg_zero hf hz
  have e3 : twiceE (As ++ [b]) (id, negL b.2).1 = 0 := by unfold twiceE isE; rw [hid]; rfl
  rw [bookE_4 e1 e2 e3]
  refine range_no rfl ?_
  rw [balS_snoc, neg_back, List.any_eq_false]
  intro x _
  have := h.near x.1
  unfold farB
  simp only [Bool.or_eq_true, decide_eq_true_eq]
  omega

theorem neg_bal (As : List BookT) (b : BookT) (id : Int) : balS (As ++ [b] ++ [(id, negL b.2)]) = balS As := by
  rw [balS_snoc, balS_snoc, neg_back]

/-! ### A new Id -/
def cntGe (Bs : List BookT) (x : Int) : Nat := Bs.countP fun b => decide (x ≤ b.1)

theorem cntGe_le (Bs : List BookT) (x : Int) : cntGe Bs x ≤ Bs.length := List.countP_le_length

theorem cntGe_next {Bs : List BookT} {i : Nat} (hi : i < Bs.length) : cntGe Bs (Bs[i].1 + 1) < cntGe Bs Bs[i].1 := by
  have key : ∀ (L : List BookT) (x : Int), (∃ b ∈ L, b.1 = x) → cntGe L (x + 1) < cntGe L x := by
    intro L x
    have mono : ∀ L : List BookT, cntGe L (x + 1) ≤ cntGe L x := fun L => List.countP_mono_left fun b _ hb => by simp at hb ⊢; omega
    induction L with
    | nil => rintro ⟨b, hb, _⟩; simp at hb
    | cons y L ih =>
      rintro ⟨b, hb, e⟩
      have hm := mono L
      unfold cntGe at *
      rw [List.countP_cons, List.countP_cons]
      by_cases hy : y.1 = x
      · have h1 : decide (x + 1 ≤ y.1) = false := by simp; omega
        have h2 : decide (x ≤ y.1) = true := by simp; omega
        simp only [h1, h2]
        simp
        omega
      · have hb' : b ∈ L := by
          rcases List.mem_cons.mp hb with h | h
          · exact absurd (by rw [← h]; exact e) hy
          · exact h
        have h3 := ih ⟨b, hb', e⟩
        by_cases h4 : x + 1 ≤ y.1
        · have h1 : decide (x + 1 ≤ y.1) = true := by simpa using h4
          have h2 : decide (x ≤ y.1) = true := by simp; omega
          simp only [h1, h2]
          omega
        · have h1 : decide (x + 1 ≤ y.1) = false := by simpa using h4
          have h2 : decide (x ≤ y.1) = false := by simp; omega
          simp only [h1, h2]
          simpa using h3
  exact key Bs _ ⟨_, List.getElem_mem hi, rfl⟩

def boolOf : Value → Bool
  | .bool b => b
  | _ => false

/-- How far the search for a new Id still may go. -/
def newM (Bs : List BookT) (v9 v11 : Value) : Nat := if boolOf v11 = true then cntGe Bs (intOf v9) + 1 else 0

theorem hasId_no {Bs : List BookT} {x : Int} (h : ∀ i (hi : i < Bs.length), (Bs[i]).1 ≠ x) : hasId Bs x = false := by
  unfold hasId
  rw [List.any_eq_false]
  intro b hb
  obtain ⟨i, hi, rfl⟩ := List.getElem_of_mem hb
  simpa using h i hi

/-! ### A ledger beside balances that were -/
structure WasSt (w wr : World) (g : Nat) (Bs : List BookT) (la : Option Addr) (n : Nat) (L : List PostT) : Prop where
  below : Below w.heap.size w wr
  led : ∃ S : Nat → Prop, LedAt wr S g Bs ∧ (∀ i, S i → w.heap.size ≤ i) ∧ PostsIn wr (fun i => ¬ S i ∧ i < wr.heap.size) la n L

theorem WasSt.one {w wr : World} {g n : Nat} {Bs : List BookT} {la : Option Addr} {L : List PostT} (k : WasSt w wr g Bs la n L) : OneSt w wr g Bs := let ⟨S, h1, h2, _⟩ := k.led; ⟨k.below, S, h1, h2⟩

theorem WasSt.posts {w wr : World} {g n : Nat} {Bs : List BookT} {la : Option Addr} {L : List PostT} (k : WasSt w wr g Bs la n L) : Posts wr la n L := let ⟨_, _, _, h⟩ := k.led; h.posts

theorem WasSt.ok {w wr : World} {g n : Nat} {Bs : List BookT} {la : Option Addr} {L : List PostT} (k : WasSt w wr g Bs la n L) : BsOk Bs := k.one.ok

theorem WasSt.step {w wr wx : World} {g n : Nat} {Bs : List BookT} {la : Option Addr} {L : List PostT} (k : WasSt w wr g Bs la n L) (hb : Below wr.heap.size wr wx) : WasSt w wx g Bs la n L := by
  obtain ⟨S, h1, h2, h3⟩ := k.led
  have hs := hb.size
  exact ⟨k.below.trans (hb.mono k.below.size), S, h1.below hb, h2, (h3.keep (T := fun i => wr.heap.size ≤ i) (Upd.of_below hb) (fun i hi hT => by have := hi.2; omega)).wider (fun i hi => ⟨hi.1, by have := hi.2; omega⟩)⟩

theorem OneSt.was {w wr : World} {g : Nat} {Bs : List BookT} (k : OneSt w wr g Bs) :
    Calls Try.prog 15 #[.pointer (some ⟨g, 0, none⟩)] wr fun e w' => ∃ la n c L, e = .returned (.slice la n c) ∧ WasSt w w' g Bs la n L ∧ IsBal L (balS Bs) ∧ n ≤ 2000 := by
  obtain ⟨S, h1, h2⟩ := k.led
  refine (balances_any S g Bs wr h1 h1.ok.wf).mono ?_
  rintro e w' ⟨la, n, c, L, rfl, hb, ho, hi, hn⟩
  refine ⟨la, n, c, L, rfl, ⟨k.below.trans (hb.mono k.below.size), S, h1.below hb, h2, ho.1, fun hn0 => ?_⟩, hi, hn⟩
  obtain ⟨p, e, hp, hr⟩ := ho.2 hn0
  have hlt := hr.lt
  exact ⟨p, e, ⟨fun hs => by have := h1.lt p hs; omega, hlt⟩, hr⟩

theorem WasSt.book {w wr : World} {g n : Nat} {Bs : List BookT} {la : Option Addr} {L : List PostT} (k : WasSt w wr g Bs la n L) (id : Int) (ra : Option Addr) (m c : Nat) (l : List PostT) (hl : Bs.length < 100) (hn : m ≤ 9223372036854775807) (hP : Posts wr ra m l) (hw : ∀ i, i < l.length → (pn l i).length ≤ maxLen ∧ (Lit.int .i64 (pk l i)).wf = true) :
    Calls Try.prog 12 #[.pointer (some ⟨g, 0, none⟩), .agg #[.int .i64 id, .slice ra m c]] wr fun e w' => e = .returned (.int .i64 (bookE Bs (id, l))) ∧ WasSt w w' g (bookS Bs (id, l)) la n L := by
  obtain ⟨S, h1, h2, h3⟩ := k.led
  refine (book_any S g Bs id ra m c l wr h1 hl hn hP hw).mono ?_
  rintro e w' ⟨rfl, hu, S', h5, h6⟩
  have hs := hu.size
  refine ⟨rfl, hu.below k.below h2, S', h5, fun i hi => ?_, (h3.keep hu (fun i hi => hi.1)).wider (fun i hi => ⟨fun hS => ?_, by have := hi.2; omega⟩)⟩
  · rcases h6 i hi with h7 | h7
    · exact h2 i h7
    · exact Nat.le_trans k.below.size h7
  · rcases h6 i hS with h7 | h7
    · exact hi.1 h7
    · have := hi.2; omega

theorem books_one {w : World} {b : Nat} {id : Int} {ra : Option Addr} {n c : Nat} {l : List PostT} (h : w.heap[b]? = some (.cells #[.int .i64 id, .slice ra n c] 34 (0, 0))) (hp : Posts w ra n l) : Books w (some ⟨b, 0, none⟩) 1 [(id, l)] := by
  refine ⟨[(id, (ra, n, c))], ⟨rfl, fun i hi => ⟨b, 0, rfl, fun j hj => ?_⟩⟩, rfl, fun i h1 h2 => ?_⟩
  · rw [cell_of_row _ _ _ _ _ _ h, rc_eq _ _ (by simpa using hi)]
    have h1 : i = 0 := by omega
    have h2 : j = 0 ∨ j = 1 := by omega
    subst h1
    rcases h2 with rfl | rfl <;> rfl
  · have h0 : i = 0 := by simpa using h1
    subst h0
    exact ⟨rfl, hp⟩
end Go.Proofs.Ytafhdpalobalkaa
