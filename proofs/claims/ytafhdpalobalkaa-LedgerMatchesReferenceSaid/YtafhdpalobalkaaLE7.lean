/- ledger: LedgerAtomic: a ledger beside the balances and the bookings that were; why a booking is not added: plain. -/
import Derived.Test.YtafhdpalobalkaaLE6
namespace Go.Proofs.Ytafhdpalobalkaa
open Go.RowKit Go.IntWalk

/-- The records of bookings, in blocks of S. -/
def RawIn (w : World) (S : Nat → Prop) (ra : Option Addr) (n : Nat) (rs : List RawT) : Prop :=
  rs.length = n ∧ (0 < n → ∃ g, ra = some ⟨g, 0, none⟩ ∧ S g ∧ RecRow RawE w g 34 rs)

theorem RawIn.recs {w : World} {S : Nat → Prop} {ra : Option Addr} {n : Nat} {rs : List RawT} (h : RawIn w S ra n rs) : Recs RawE w ra n rs := by
  refine ⟨h.1, fun i hi => ?_⟩
  obtain ⟨g, rfl, _, hr⟩ := h.2 (by omega)
  exact ⟨g, 0, rfl, fun j hj => by rw [Nat.zero_add]; exact hr.cell i j (by rw [h.1]; exact hi) hj⟩

theorem RawIn.keep {w w' : World} {S T : Nat → Prop} {ra : Option Addr} {n : Nat} {rs : List RawT} (h : RawIn w S ra n rs) (hu : Upd T w w') (hd : ∀ i, S i → ¬ T i) : RawIn w' S ra n rs :=
  ⟨h.1, fun hn => let ⟨g, e, hg, hr⟩ := h.2 hn; ⟨g, e, hg, by
    obtain ⟨arr, ha, r⟩ := hr
    exact ⟨arr, (hu.block g (lt_of_block ha) (hd g hg)).trans ha, r⟩⟩⟩

theorem RawIn.wider {w : World} {S S' : Nat → Prop} {ra : Option Addr} {n : Nat} {rs : List RawT} (h : RawIn w S ra n rs) (hs : ∀ i, S i → S' i) : RawIn w S' ra n rs :=
  ⟨h.1, fun hn => let ⟨g, e, hg, hr⟩ := h.2 hn; ⟨g, e, hs g hg, hr⟩⟩

theorem BooksIn.books {w : World} {S : Nat → Prop} {la : Option Addr} {n : Nat} {rs rs' : List RawT} {Cs Ds : List BookT} (h : BooksIn w S (rs ++ rs') (Cs ++ Ds)) (hl : rs.length = Cs.length) (hr : Recs RawE w la n rs) : Books w la n Cs := by
  refine ⟨rs, hr, hl, fun i h1 h2 => ?_⟩
  have := h.2 i (by simp; omega) (by simp; omega)
  rw [List.getElem_append_left h1, List.getElem_append_left h2] at this
  exact ⟨this.1, this.2.posts⟩

/-- .. beside the balances that were. -/
structure WasRs (w wr : World) (g : Nat) (Bs : List BookT) (rs : List RawT) (la : Option Addr) (n : Nat) (L : List PostT) : Prop where
  below : Below w.heap.size w wr
  led : ∃ S : Nat → Prop, LedRs wr S g Bs rs ∧ (∀ i, S i → w.heap.size ≤ i) ∧ PostsIn wr (fun i => ¬ S i ∧ i < wr.heap.size) la n L

theorem OneSt.wasR {w wr : World} {g : Nat} {Bs : List BookT} (k : OneSt w wr g Bs) :
    Calls Try.prog 15 #[.pointer (some ⟨g, 0, none⟩)] wr fun e w' => ∃ la n c L rs, e = .returned (.slice la n c) ∧ WasRs w w' g Bs rs la n L ∧ IsBal L (balS Bs) ∧ n ≤ 2000 := by
  obtain ⟨S, h1, h2⟩ := k.led
  obtain ⟨lx, nx, cx, Mx, Ix, rs, hc⟩ := h1
  have h1 : LedAt wr S g Bs := ⟨lx, nx, cx, Mx, Ix, rs, hc⟩
  refine (balances_any S g Bs wr h1 h1.ok.wf).mono ?_
  rintro e w' ⟨la, n, c, L, rfl, hb, ho, hi, hn⟩
  refine ⟨la, n, c, L, rs, rfl, ⟨k.below.trans (hb.mono k.below.size), S, LedRs.below ⟨lx, nx, cx, Mx, Ix, hc⟩ hb, h2, ho.1, fun hn0 => ?_⟩, hi, hn⟩
  obtain ⟨p, e, hp, hr⟩ := ho.2 hn0
  have hlt := hr.lt
  exact ⟨p, e, ⟨fun hs => by have := h1.lt p hs; omega, hlt⟩, hr⟩

/-- .. and the bookings that were. -/
structure AllSt (w wr : World) (g : Nat) (Bs : List BookT) (la : Option Addr) (n : Nat) (L : List PostT) (lb : Option Addr) (k : Nat) (Cs Ds : List BookT) : Prop where
  below : Below w.heap.size w wr
  eq : Bs = Cs ++ Ds
  led : ∃ (S : Nat → Prop) (rs rs' : List RawT), LedRs wr S g Bs (rs ++ rs') ∧ (∀ i, S i → w.heap.size ≤ i) ∧ PostsIn wr (fun i => ¬ S i ∧ i < wr.heap.size) la n L ∧ RawIn wr (fun i => ¬ S i ∧ i < wr.heap.size) lb k rs ∧ rs.length = Cs.length

set_option maxRecDepth 10000 in
theorem WasRs.all {w wr : World} {g n : Nat} {Bs : List BookT} {rs : List RawT} {la : Option Addr} {L : List PostT} (k : WasRs w wr g Bs rs la n L) :
    Calls Try.prog 20 #[.pointer (some ⟨g, 0, none⟩)] wr fun e w' => ∃ lb m c, e = .returned (.slice lb m c) ∧ AllSt w w' g Bs la n L lb m Bs [] := by
  obtain ⟨S, ⟨lx, nx, cc, M, I, hc⟩, h2, h3⟩ := k.led
  have HC := Lib.hid hc
  have HK := Lib.hid k
  have H2 := Lib.hid h2
  have H3 := Lib.hid h3
  have g0 : wr.cell? ⟨g, 0, none⟩ = some (.slice lx nx cc) := by rw [cell_of_row _ _ _ _ _ _ hc.box]; rfl
  have hn : nx ≤ 1000 := by have := hc.num.1; have := hc.ok.len; omega
  clear hc h2 h3 k
  go_enter Try.func20, Try.ntmps20
  go_wp2_with fail
  change Calls Try.prog 42 _ _ _
  refine (clone_books lx nx cc rs wr HC.out.recs hn).mono ?_
  rintro e w2 ⟨lb, m, c', rfl, hb2, ho2⟩
  have HB2 := Lib.hid hb2
  have HO2 := Lib.hid ho2
  clear hb2 ho2
  go_wp2_with fail
  go_ret
  have hs := HB2.out.size
  refine ⟨lb, m, c', rfl, HK.out.below.trans (HB2.out.mono HK.out.below.size), by simp, S, rs, [], by rw [List.append_nil]; exact LedRs.below ⟨lx, nx, cc, M, I, HC.out⟩ HB2.out, H2.out,
    (H3.out.keep (T := fun i => wr.heap.size ≤ i) (Upd.of_below HB2.out) (fun i hi hT => by have := hi.2; omega)).wider (fun i hi => ⟨hi.1, by have := hi.2; omega⟩), ⟨HO2.out.1, fun hn0 => ?_⟩, HC.out.books.1⟩
  obtain ⟨p, e, hp, hr⟩ := HO2.out.2 hn0
  exact ⟨p, e, ⟨fun hS => by have := HC.out.lt p hS; omega, hr.lt⟩, hr⟩

section
variable {w wr wx : World} {g n k : Nat} {Bs Cs Ds : List BookT} {la lb : Option Addr} {L : List PostT}

theorem AllSt.one (h : AllSt w wr g Bs la n L lb k Cs Ds) : OneSt w wr g Bs := let ⟨S, _, _, h1, h2, _⟩ := h.led; ⟨h.below, S, h1.led, h2⟩
theorem AllSt.posts (h : AllSt w wr g Bs la n L lb k Cs Ds) : Posts wr la n L := let ⟨_, _, _, _, _, h3, _⟩ := h.led; h3.posts
theorem AllSt.raw (h : AllSt w wr g Bs la n L lb k Cs Ds) : ∃ rs, Recs RawE wr lb k rs ∧ rs.length = Cs.length ∧ ∀ i (h1 : i < rs.length) (h2 : i < Cs.length), rs[i].1 = Cs[i].1 ∧ Posts wr rs[i].2.1 rs[i].2.2.1 Cs[i].2 := by
  obtain ⟨S, rs, rs', ⟨_, _, _, _, _, hc⟩, _, _, h4, h5⟩ := h.led
  have hb := hc.books
  rw [h.eq] at hb
  refine ⟨rs, h4.recs, h5, fun i h1 h2 => ?_⟩
  have := hb.2 i (by simp; omega) (by simp; omega)
  rw [List.getElem_append_left h1, List.getElem_append_left h2] at this
  exact ⟨this.1, this.2.posts⟩
theorem AllSt.books (h : AllSt w wr g Bs la n L lb k Cs Ds) : Books wr lb k Cs := h.raw

theorem AllSt.step (h : AllSt w wr g Bs la n L lb k Cs Ds) (hb : Below wr.heap.size wr wx) : AllSt w wx g Bs la n L lb k Cs Ds := by
  obtain ⟨S, rs, rs', h1, h2, h3, h4, h5⟩ := h.led
  have hs := hb.size
  exact ⟨h.below.trans (hb.mono h.below.size), h.eq, S, rs, rs', h1.below hb, h2, (h3.keep (T := fun i => wr.heap.size ≤ i) (Upd.of_below hb) (fun i hi hT => by have := hi.2; omega)).wider (fun i hi => ⟨hi.1, by have := hi.2; omega⟩),
    (h4.keep (T := fun i => wr.heap.size ≤ i) (Upd.of_below hb) (fun i hi hT => by have := hi.2; omega)).wider (fun i hi => ⟨hi.1, by have := hi.2; omega⟩), h5⟩

theorem AllSt.book (h : AllSt w wr g Bs la n L lb k Cs Ds) (id : Int) (ra : Option Addr) (m c : Nat) (l : List PostT) (hl : Bs.length < 100) (hn : m ≤ 9223372036854775807) (hP : Posts wr ra m l) (hw : ∀ i, i < l.length → (pn l i).length ≤ maxLen ∧ (Lit.int .i64 (pk l i)).wf = true) :
    Calls Try.prog 12 #[.pointer (some ⟨g, 0, none⟩), .agg #[.int .i64 id, .slice ra m c]] wr fun e w' => e = .returned (.int .i64 (bookE Bs (id, l))) ∧ ∃ Ds', AllSt w w' g (bookS Bs (id, l)) la n L lb k Cs Ds' := by
  obtain ⟨S, rs, rs', h1, h2, h3, h4, h5⟩ := h.led
  refine (book_rs S g Bs (rs ++ rs') id ra m c l wr h1 hl hn hP hw).mono ?_
  rintro e w' ⟨rfl, hu, S', ⟨rs2, h6⟩, h7⟩
  have hs := hu.size
  have hnot : ∀ i, (¬ S i ∧ i < wr.heap.size) → ¬ S' i ∧ i < w'.heap.size := fun i hi => ⟨fun hS => by
    rcases h7 i hS with h8 | h8
    · exact hi.1 h8
    · have := hi.2; omega, by have := hi.2; omega⟩
  have he := h.eq
  obtain ⟨Ds', hd⟩ : ∃ Ds', bookS Bs (id, l) = Cs ++ Ds' := by
    unfold bookS
    split
    · exact ⟨Ds ++ [(id, l)], by rw [he, List.append_assoc]⟩
    · exact ⟨Ds, he⟩
  refine ⟨rfl, Ds', hu.below h.below h2, hd, S', rs, rs' ++ rs2, by rw [← List.append_assoc]; exact h6, fun i hi => ?_, (h3.keep hu (fun i hi => hi.1)).wider hnot, (h4.keep hu (fun i hi => hi.1)).wider hnot, h5⟩
  rcases h7 i hi with h8 | h8
  · exact h2 i h8
  · exact Nat.le_trans h.below.size h8
end

/-! ### Why a booking is not added -/
theorem bookE_why (As : List BookT) (b : BookT) : (bookE As b = 1 ∧ formedS b = false) ∨ (bookE As b = 19 ∧ formedS b = true ∧ (totW b.2 b.2.length == 0) = false) ∨
    (bookE As b = 9 ∧ formedS b = true ∧ (totW b.2 b.2.length == 0) = true ∧ hasId As b.1 = true) ∨ (bookE As b = 2 ∧ formedS b = true ∧ (totW b.2 b.2.length == 0) = true ∧ hasId As b.1 = false) ∨
    (bookE As b = 0 ∧ formedS b = true ∧ (totW b.2 b.2.length == 0) = true ∧ hasId As b.1 = false) := by
  cases hf : formedS b
  · left
    have h1 : formE b = 1 := by unfold formE isE; rw [hf]; rfl
    exact ⟨by rw [bookE_1 (by omega), h1], rfl⟩
  · have h1 : formE b = 0 := by unfold formE isE; rw [hf]; rfl
    cases hz : (totW b.2 b.2.length == 0)
    · right; left
      have h2 : zeroE b.2 = 19 := by
        unfold zeroE isE
        rw [if_pos]
        simpa [bne] using hz
      exact ⟨by rw [bookE_2 h1 (by omega), h2], rfl, rfl⟩
    · have h2 : zeroE b.2 = 0 := by
        unfold zeroE isE
        rw [if_neg]
        simp only [beq_iff_eq] at hz
        simp [hz]
      cases ht : hasId As b.1
      · have h3 : twiceE As b.1 = 0 := by unfold twiceE isE; rw [ht]; rfl
        have h4 := bookE_4 h1 h2 h3
        right; right; right
        unfold rangeS at h4
        split at h4
        · left; exact ⟨h4, rfl, rfl, rfl⟩
        · right; exact ⟨h4, rfl, rfl, rfl⟩
      · right; right; left
        have h3 : twiceE As b.1 = 9 := by unfold twiceE isE; rw [ht]; rfl
        exact ⟨by rw [bookE_3 h1 h2 (by omega), h3], rfl, rfl, rfl⟩

theorem hasId_take {Cs : List BookT} {i : Nat} (h : i < Cs.length) (x : Int) : hasId (Cs.take (i + 1)) x = (hasId (Cs.take i) x || decide ((Cs[i]).1 = x)) := by
  rw [List.take_succ_eq_append_getElem h, hasId_snoc]

theorem bal_split (As : List BookT) (b : BookT) (a : AccT) : balS (As ++ [b]) a = balS As a + balS [b] a := by
  rw [balS_snoc, sumF_add]
  rfl
end Go.Proofs.Ytafhdpalobalkaa
