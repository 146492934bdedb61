/- ledger: what a ledger is in memory, and what stays of it; the four checks of Book together. -/
import Derived.Test.YtafhdpalobalkaaL9
namespace Go.Proofs.Ytafhdpalobalkaa
open Go.RowKit Go.IntWalk Go.Maps Go.ChangeMaps

/-- w' is w but for the blocks of S, and new ones. -/
structure Upd (S : Nat → Prop) (w w' : World) : Prop where
  os : w'.os = w.os
  tape : w'.tape = w.tape
  output : w'.output = w.output
  size : w.heap.size ≤ w'.heap.size
  block : ∀ i, i < w.heap.size → ¬ S i → w'.heap[i]? = w.heap[i]?

theorem Upd.of_grown {S : Nat → Prop} {w w' : World} {b : Nat} (h : w.grownBy w' (some b)) (hb : S b ∨ w.heap.size ≤ b) : Upd S w w' :=
  ⟨h.os, h.tape, h.output, h.size, fun i hi hS => h.block i hi (by
    intro e
    cases e
    rcases hb with hb | hb
    · exact hS hb
    · omega)⟩

theorem Upd.of_below {S : Nat → Prop} {w w' : World} (h : Below w.heap.size w w') : Upd S w w' := ⟨h.os, h.tape, h.output, h.size, fun i hi _ => h.block i hi⟩

theorem Upd.trans {S S' : Nat → Prop} {a b c : World} (h : Upd S a b) (k : Upd S' b c) (hs : ∀ i, S' i → S i ∨ a.heap.size ≤ i) : Upd S a c :=
  ⟨k.os.trans h.os, k.tape.trans h.tape, k.output.trans h.output, Nat.le_trans h.size k.size, fun i hi hS => (k.block i (Nat.lt_of_lt_of_le hi h.size) (fun hS' => by
    rcases hs i hS' with h1 | h1
    · exact hS h1
    · omega)).trans (h.block i hi hS)⟩

theorem Upd.below {S : Nat → Prop} {w0 w w' : World} (hb : Below w0.heap.size w0 w) (h : Upd S w w') (hs : ∀ i, S i → w0.heap.size ≤ i) : Below w0.heap.size w0 w' :=
  hb.trans ⟨h.os, h.tape, h.output, Nat.le_trans (Nat.le_refl _) (by have := h.size; have := hb.size; omega), fun i hi => h.block i (by have := hb.size; omega) (fun hS => by have := hs i hS; omega)⟩

/-- A booking in a list: its number and where its postings lie. -/
abbrev RawT := Int × (Option Addr × Nat × Nat)
def RawE : Enc RawT 2 := ⟨fun x => [.int .i64 x.1, .slice x.2.1 x.2.2.1 x.2.2.2], fun _ => rfl, fun x v hv => by
  simp only [List.mem_cons, List.not_mem_nil, or_false] at hv
  rcases hv with rfl | rfl <;> rfl, by decide⟩

/-- The postings of a booking, in blocks of S. -/
def PostsIn (w : World) (S : Nat → Prop) (ra : Option Addr) (n : Nat) (l : List PostT) : Prop :=
  l.length = n ∧ (0 < n → ∃ g, ra = some ⟨g, 0, none⟩ ∧ S g ∧ RecRow PostE w g 44 l)

theorem PostsIn.posts {w : World} {S : Nat → Prop} {ra : Option Addr} {n : Nat} {l : List PostT} (h : PostsIn w S ra n l) : Posts w ra n l := by
  refine ⟨h.1, fun i hi => ?_⟩
  obtain ⟨g, rfl, _, hr⟩ := h.2 (by omega)
  exact ⟨g, 0, rfl, fun j hj => by rw [Nat.zero_add]; exact hr.cell i j (by rw [h.1]; exact hi) hj⟩

theorem PostsIn.keep {w w' : World} {S T : Nat → Prop} {ra : Option Addr} {n : Nat} {l : List PostT} (h : PostsIn w S ra n l) (hu : Upd T w w') (hd : ∀ i, S i → ¬ T i) : PostsIn w' S ra n l :=
  ⟨h.1, fun hn => let ⟨g, e, hg, hr⟩ := h.2 hn; ⟨g, e, hg, by
    obtain ⟨arr, ha, r⟩ := hr
    exact ⟨arr, (hu.block g (lt_of_block ha) (hd g hg)).trans ha, r⟩⟩⟩

theorem PostsIn.wider {w : World} {S S' : Nat → Prop} {ra : Option Addr} {n : Nat} {l : List PostT} (h : PostsIn w S ra n l) (hs : ∀ i, S i → S' i) : PostsIn w S' ra n l :=
  ⟨h.1, fun hn => let ⟨g, e, hg, hr⟩ := h.2 hn; ⟨g, e, hs g hg, hr⟩⟩

/-- The bookings of a list. -/
def BooksIn (w : World) (S : Nat → Prop) (rs : List RawT) (Bs : List BookT) : Prop :=
  rs.length = Bs.length ∧ ∀ i (h1 : i < rs.length) (h2 : i < Bs.length), rs[i].1 = Bs[i].1 ∧ PostsIn w S rs[i].2.1 rs[i].2.2.1 Bs[i].2

theorem BooksIn.keep {w w' : World} {S T : Nat → Prop} {rs : List RawT} {Bs : List BookT} (h : BooksIn w S rs Bs) (hu : Upd T w w') (hd : ∀ i, S i → ¬ T i) : BooksIn w' S rs Bs :=
  ⟨h.1, fun i h1 h2 => ⟨(h.2 i h1 h2).1, (h.2 i h1 h2).2.keep hu hd⟩⟩

theorem BooksIn.wider {w : World} {S S' : Nat → Prop} {rs : List RawT} {Bs : List BookT} (h : BooksIn w S rs Bs) (hs : ∀ i, S i → S' i) : BooksIn w S' rs Bs :=
  ⟨h.1, fun i h1 h2 => ⟨(h.2 i h1 h2).1, (h.2 i h1 h2).2.wider hs⟩⟩

theorem BooksIn.nil {w : World} {S : Nat → Prop} : BooksIn w S [] [] := ⟨rfl, fun i h1 => by simp at h1⟩

/-- One more. -/
theorem BooksIn.snoc {w : World} {S : Nat → Prop} {rs : List RawT} {Bs : List BookT} (h : BooksIn w S rs Bs) {r : RawT} {b : BookT} (he : r.1 = b.1) (hp : PostsIn w S r.2.1 r.2.2.1 b.2) : BooksIn w S (rs ++ [r]) (Bs ++ [b]) := by
  refine ⟨by simp [h.1], fun i h1 h2 => ?_⟩
  have hl := h.1
  by_cases hi : i < rs.length
  · rw [List.getElem_append_left hi, List.getElem_append_left (by omega)]
    exact h.2 i hi (by omega)
  · have : i = rs.length := by simp at h1; omega
    subst this
    rw [List.getElem_append_right (Nat.le_refl _), List.getElem_append_right (by omega)]
    simp [hl]
    exact ⟨he, hp⟩

/-- The balances behind some bookings. -/
def balS (Bs : List BookT) : AccT → Int := Bs.foldl (fun f b => sumF f b.2 b.2.length) (fun _ => 0)

theorem balS_snoc (Bs : List BookT) (b : BookT) : balS (Bs ++ [b]) = sumF (balS Bs) b.2 b.2.length := by unfold balS; rw [List.foldl_append]; rfl

/-- What holds of the bookings of a ledger. -/
structure BsOk (Bs : List BookT) : Prop where
  len : Bs.length ≤ 100
  formed : ∀ b ∈ Bs, formedS b = true
  near : ∀ a, -1000000000000 ≤ balS Bs a ∧ balS Bs a ≤ 1000000000000

/-- A ledger in memory, in blocks of S. -/
structure LedC (w : World) (S : Nat → Prop) (g : Nat) (Bs : List BookT) (la : Option Addr) (n c M I : Nat) (rs : List RawT) : Prop where
  box : w.heap[g]? = some (.cells #[.slice la n c, .map (some M), .map (some I)] 55 (0, 0))
  mg : S g
  mM : S M
  mI : S I
  mla : ∀ r, (Value.slice la n c).ownBlock = some r → S r
  ne : M ≠ I
  lt : ∀ i, S i → i < w.heap.size
  bal : BalM w M (20 * Bs.length) (balS Bs)
  ids : IdsM w I Bs.length Bs
  row : w.ownsRow 0 34 2 (.slice la n c) n (flat RawE rs)
  books : BooksIn w S rs Bs
  ok : BsOk Bs

def LedAt (w : World) (S : Nat → Prop) (g : Nat) (Bs : List BookT) : Prop := ∃ la n c M I rs, LedC w S g Bs la n c M I rs

theorem LedC.num {w : World} {S : Nat → Prop} {g : Nat} {Bs : List BookT} {la : Option Addr} {n c M I : Nat} {rs : List RawT} (h : LedC w S g Bs la n c M I rs) : n = Bs.length ∧ rs.length = n := by
  have h1 := h.row.1
  rw [flat_len] at h1
  have h2 := h.books.1
  omega

theorem row_of_heap {w w' : World} {B k n : Nat} {T : TypeId} {v : Value} {xs : List Value} (h : w.ownsRow B T k v n xs) (e : ∀ r, v.ownBlock = some r → w'.heap[r]? = w.heap[r]?) : w'.ownsRow B T k v n xs := by
  refine ⟨h.1, ?_⟩
  rcases h.2 with h0 | ⟨g, cap, cur, rfl, hb, hh, r⟩
  · exact Or.inl h0
  · exact Or.inr ⟨g, cap, cur, rfl, hb, (e g rfl).trans hh, r⟩

theorem row_lt {w : World} {B k n r : Nat} {T : TypeId} {v : Value} {xs : List Value} (h : w.ownsRow B T k v n xs) (e : v.ownBlock = some r) : r < w.heap.size := by
  rcases h.2 with ⟨rfl, _⟩ | ⟨g, cap, cur, rfl, hb, hh, _⟩
  · cases e
  · cases e
    exact lt_of_block hh

/-- A ledger is as it was behind what leaves its blocks alone. -/
theorem LedC.keep {w w' : World} {S T : Nat → Prop} {g : Nat} {Bs : List BookT} {la : Option Addr} {n c M I : Nat} {rs : List RawT} (h : LedC w S g Bs la n c M I rs) (hu : Upd T w w') (hd : ∀ i, S i → ¬ T i) : LedC w' S g Bs la n c M I rs :=
  have hb : ∀ i, S i → w'.heap[i]? = w.heap[i]? := fun i hi => hu.block i (h.lt i hi) (hd i hi)
  ⟨(hb g h.mg).trans h.box, h.mg, h.mM, h.mI, h.mla, h.ne, fun i hi => Nat.lt_of_lt_of_le (h.lt i hi) hu.size, h.bal.of_heap (hb M h.mM), h.ids.of_heap (hb I h.mI), row_of_heap h.row (fun r hr => hb r (h.mla r hr)), h.books.keep hu hd, h.ok⟩

theorem LedAt.keep {w w' : World} {S T : Nat → Prop} {g : Nat} {Bs : List BookT} (h : LedAt w S g Bs) (hu : Upd T w w') (hd : ∀ i, S i → ¬ T i) : LedAt w' S g Bs :=
  let ⟨la, n, c, M, I, rs, h⟩ := h
  ⟨la, n, c, M, I, rs, h.keep hu hd⟩

theorem LedAt.below {w w' : World} {S : Nat → Prop} {g : Nat} {Bs : List BookT} (h : LedAt w S g Bs) (hb : Below w.heap.size w w') : LedAt w' S g Bs :=
  h.keep (T := fun _ => False) (Upd.of_below hb) (fun _ _ h => h)

/-- The error of a booking: the first that is there. -/
def bookE (Bs : List BookT) (b : BookT) : Int :=
  if formE b ≠ 0 then formE b else if zeroE b.2 ≠ 0 then zeroE b.2 else if twiceE Bs b.1 ≠ 0 then twiceE Bs b.1 else rangeS (balS Bs) b.2

/-- The bookings behind a booking. -/
def bookS (Bs : List BookT) (b : BookT) : List BookT := if bookE Bs b = 0 then Bs ++ [b] else Bs

theorem formE_0 {b : BookT} (h : formE b = 0) : formedS b = true := by
  unfold formE isE at h
  cases hh : formedS b
  · rw [hh] at h; simp at h
  · rfl

theorem formed_ok {b : BookT} (h : formedS b = true) (hw : ∀ i, i < b.2.length → (pn b.2 i).length ≤ maxLen ∧ (Lit.int .i64 (pk b.2 i)).wf = true) : PostsOk b.2 ∧ (Lit.int .i64 b.1).wf = true := by
  unfold formedS at h
  simp only [Bool.and_eq_true, decide_eq_true_eq, Bool.not_eq_true'] at h
  obtain ⟨⟨h1, h2⟩, ⟨h3, h4⟩, h5⟩ := h
  refine ⟨⟨h4, fun i hi => ?_, fun i hi => ⟨(hw i hi).2, (hw i hi).1⟩⟩, wf_int (by omega) (by omega)⟩
  have h6 : badS ((pk b.2 i, pn b.2 i), pa b.2 i) = false := by
    cases hh : badS ((pk b.2 i, pn b.2 i), pa b.2 i)
    · rfl
    · rw [any_yes hi hh] at h5; simp at h5
  unfold badS at h6
  simp only [Bool.or_eq_false_iff, Bool.not_eq_false'] at h6
  exact (amtB_iff _).mp h6.2.1
end Go.Proofs.Ytafhdpalobalkaa
