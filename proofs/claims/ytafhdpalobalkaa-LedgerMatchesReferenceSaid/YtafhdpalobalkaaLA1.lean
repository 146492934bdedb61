/- ledger: what a booking that is added makes of a ledger's memory: the laws behind the walk. -/
import Derived.Test.YtafhdpalobalkaaL11
namespace Go.Proofs.Ytafhdpalobalkaa
open Go.RowKit Go.IntWalk Go.Maps Go.ChangeMaps

theorem sumF_out {f : AccT → Int} {l : List PostT} {a : AccT} (h : ∀ i, i < l.length → (pk l i, pn l i) ≠ a) : ∀ i, i ≤ l.length → sumF f l i a = f a := by
  intro i
  induction i with
  | zero => intro _; rfl
  | succ i ih =>
    intro hi
    show plusF (sumF f l i) _ a = _
    unfold plusF
    rw [if_neg (fun e => h i (by omega) e.symm), ih (by omega), Int.add_zero]

theorem near_next {f : AccT → Int} {l : List PostT} (hf : ∀ a, -1000000000000 ≤ f a ∧ f a ≤ 1000000000000) (hr : rangeS f l = 0) (a : AccT) : -1000000000000 ≤ sumF f l l.length a ∧ sumF f l l.length a ≤ 1000000000000 := by
  by_cases hex : ∃ i, i < l.length ∧ (pk l i, pn l i) = a
  · obtain ⟨i, hi, e⟩ := hex
    have hany : l.any (farB (sumF f l l.length)) = false := by
      cases hh : l.any (farB (sumF f l l.length))
      · rfl
      · unfold rangeS at hr; rw [hh] at hr; simp at hr
    have h1 : farB (sumF f l l.length) ((pk l i, pn l i), pa l i) = false := by
      cases hh : farB (sumF f l l.length) ((pk l i, pn l i), pa l i)
      · rfl
      · have : l.any (farB (sumF f l l.length)) = true := by
          rw [← any_range l _, List.any_eq_true]
          exact ⟨i, List.mem_range.mpr hi, hh⟩
        rw [hany] at this
        simp at this
    unfold farB at h1
    simp only [Bool.or_eq_false_iff, decide_eq_false_iff_not] at h1
    rw [e] at h1
    omega
  · rw [sumF_out (fun i hi e => hex ⟨i, hi, e⟩) l.length (Nat.le_refl _)]
    exact hf a

theorem BsOk.next {Bs : List BookT} {b : BookT} (h : BsOk Bs) (hl : Bs.length < 100) (he : bookE Bs b = 0) : BsOk (Bs ++ [b]) := by
  have h1 : formE b = 0 := by
    unfold bookE at he
    by_cases h1 : formE b = 0
    · exact h1
    · rw [if_pos h1] at he; exact he
  have h2 : zeroE b.2 = 0 := by
    unfold bookE at he
    rw [if_neg (by omega)] at he
    by_cases h2 : zeroE b.2 = 0
    · exact h2
    · rw [if_pos h2] at he; exact he
  have h3 : twiceE Bs b.1 = 0 := by
    unfold bookE at he
    rw [if_neg (by omega), if_neg (by omega)] at he
    by_cases h3 : twiceE Bs b.1 = 0
    · exact h3
    · rw [if_pos h3] at he; exact he
  rw [bookE_4 h1 h2 h3] at he
  refine ⟨by simp; omega, fun x hx => ?_, fun a => ?_⟩
  · rcases List.mem_append.mp hx with hx | hx
    · exact h.formed x hx
    · rw [List.mem_singleton.mp hx]; exact formE_0 h1
  · rw [balS_snoc]
    exact near_next h.near he a

theorem BalM.mono {w : World} {M N N' : Nat} {f : AccT → Int} (h : BalM w M N f) (hn : N ≤ N') : BalM w M N' f := let ⟨D, h, h2⟩ := h; ⟨D, h.mono hn, h2⟩

theorem Upd.of_row {S : Nat → Prop} {w w' : World} {r : Option Nat} (h : w.grownBy w' r) (hb : ∀ b, r = some b → S b) : Upd S w w' :=
  ⟨h.os, h.tape, h.output, h.size, fun i hi hS => h.block i hi (fun e => hS (hb i e.symm))⟩

/-- A block of cells of another type is another block. -/
theorem type_ne {w : World} {i j : Nat} {A B : Array Value} {T U : TypeId} {x y : Nat × Nat} (h1 : w.heap[i]? = some (.cells A T x)) (h2 : w.heap[j]? = some (.cells B U y)) (hT : T ≠ U) : i ≠ j := by
  rintro rfl
  rw [h1] at h2
  simp only [Option.some.injEq, Obj.cells.injEq] at h2
  exact hT h2.2.1

/-- A ledger in memory whose bookings lie as the records rs say. -/
def LedRs (w : World) (S : Nat → Prop) (g : Nat) (Bs : List BookT) (rs : List RawT) : Prop := ∃ la n c M I, LedC w S g Bs la n c M I rs

theorem LedRs.led {w : World} {S : Nat → Prop} {g : Nat} {Bs : List BookT} {rs : List RawT} (h : LedRs w S g Bs rs) : LedAt w S g Bs := let ⟨la, n, c, M, I, hc⟩ := h; ⟨la, n, c, M, I, rs, hc⟩

theorem LedRs.keep {w w' : World} {S T : Nat → Prop} {g : Nat} {Bs : List BookT} {rs : List RawT} (h : LedRs w S g Bs rs) (hu : Upd T w w') (hd : ∀ i, S i → ¬ T i) : LedRs w' S g Bs rs :=
  let ⟨la, n, c, M, I, hc⟩ := h; ⟨la, n, c, M, I, hc.keep hu hd⟩

theorem LedRs.below {w w' : World} {S : Nat → Prop} {g : Nat} {Bs : List BookT} {rs : List RawT} (h : LedRs w S g Bs rs) (hb : Below w.heap.size w w') : LedRs w' S g Bs rs :=
  let ⟨la, n, c, M, I, hc⟩ := h
  ⟨la, n, c, M, I, hc.keep (T := fun i => w.heap.size ≤ i) (Upd.of_below hb) (fun i hi hT => by have := hc.lt i hi; omega)⟩

/-- The memory behind Book's last statement. -/
theorem book_end {S : Nat → Prop} {g : Nat} {Bs : List BookT} {id : Int} {l : List PostT} {w w5 w6 w7 w8 : World} {la : Option Addr} {k cc M I M' : Nat} {rs : List RawT} {lp : Option Addr} {kp cp g2 cap2 : Nat}
    (hc : LedC w5 S g Bs la k cc M I rs) (hE : bookE Bs (id, l) = 0) (hbs : Bs.length < 100) (hlt : ∀ i, S i → i < w.heap.size) (hU5 : Upd S w w5) (hU6 : Upd S w5 w6)
    (hg6 : w6.heap[g]? = some (.cells #[.slice la k cc, .map (some M'), .map (some I)] 55 (0, 0))) (hI6 : IdsM w6 I (Bs.length + 1) (Bs ++ [(id, l)])) (hM6 : BalM w6 M' (20 * Bs.length + l.length) (sumF (balS Bs) l l.length)) (hM : w.heap.size ≤ M') (hl20 : l.length ≤ 20)
    (hR6 : w6.ownsRow 0 34 2 (.slice la k cc) k (flat RawE rs)) (hB6 : BooksIn w6 S rs Bs) (hrow : ∀ r, (Value.slice la k cc).ownBlock = some r → r ≠ g ∧ r ≠ I)
    (hb7 : Below w6.heap.size w6 w7) (ho7 : OwnRecs PostE w7 w6.heap.size 44 lp kp l) (hown : w8.ownsRow 0 34 2 (.slice (some ⟨g2, 0, none⟩) (k + 1) cap2) (k + 1) (flat RawE rs ++ [.int .i64 id, .slice lp kp cp]))
    (hgrow : (w7.alloc (.cells #[.int .i64 id, .slice lp kp cp] 34)).grownBy w8 (Value.slice la k cc).ownBlock) (hat : (Value.slice la k cc).ownBlock = some g2 ∨ g2 = w7.heap.size + 1) (hlt8 : g2 < w8.heap.size) :
    Upd S w (w8.setCell ⟨g, 0, none⟩ (.slice (some ⟨g2, 0, none⟩) (k + 1) cap2)) ∧ ∃ S' : Nat → Prop, (∃ rs', LedRs (w8.setCell ⟨g, 0, none⟩ (.slice (some ⟨g2, 0, none⟩) (k + 1) cap2)) S' g (bookS Bs (id, l)) (rs ++ rs')) ∧ ∀ i, S' i → S i ∨ w.heap.size ≤ i := by
  have hs5 := hU5.size
  have hs6 := hU6.size
  have hs7 := hb7.size
  have hal := Joins.below_alloc1 w7 (.cells #[.int .i64 id, .slice lp kp cp] 34)
  have hs8 := hgrow.size
  have hsa : (w7.alloc (.cells #[.int .i64 id, .slice lp kp cp] 34)).heap.size = w7.heap.size + 1 := by simp
  rw [hsa] at hs8
  have hgS := hc.mg
  have hgl := hlt g hgS
  -- a block of w6 that is neither g nor the row's is as it was
  have keep : ∀ i, i < w6.heap.size → i ≠ g → (∀ r, (Value.slice la k cc).ownBlock = some r → i ≠ r) → (w8.setCell ⟨g, 0, none⟩ (.slice (some ⟨g2, 0, none⟩) (k + 1) cap2)).heap[i]? = w6.heap[i]? := fun i hi h1 h2 => by
    rw [Below.heap_setCell _ _ _ _ h1]
    exact (hgrow.block i (by rw [hsa]; omega) (fun e => h2 i e.symm rfl)).trans ((hal.block i (by omega)).trans (hb7.block i hi))
  have hg8 : w8.heap[g]? = some (.cells #[.slice la k cc, .map (some M'), .map (some I)] 55 (0, 0)) :=
    (hgrow.block g (by rw [hsa]; omega) (fun e => (hrow g e.symm).1 rfl)).trans ((hal.block g (by omega)).trans ((hb7.block g (by omega)).trans hg6))
  have hrl : ∀ r, (Value.slice la k cc).ownBlock = some r → S r := hc.mla
  have hIl := hI6.lt
  have hMl := hM6.lt
  have hgI : g ≠ I := by
    rintro rfl
    obtain ⟨_, ⟨_, _, hb, _⟩, _⟩ := hI6
    rw [hg6] at hb
    simp at hb
  have hgM : g ≠ M' := by omega
  have hIM : I ≠ M' := by have := hlt I hc.mI; omega
  have hs9 : (w8.setCell ⟨g, 0, none⟩ (.slice (some ⟨g2, 0, none⟩) (k + 1) cap2)).heap.size = w8.heap.size := by simp [World.setCell]
  have hg2 : g2 ≠ g := by
    rcases hat with h | h
    · exact (hrow g2 h).1
    · omega
  have hBS : bookS Bs (id, l) = Bs ++ [(id, l)] := by unfold bookS; rw [if_pos hE]
  refine ⟨?_, fun i => S i ∨ (w.heap.size ≤ i ∧ i < w8.heap.size), ?_, fun i hi => hi.imp (fun h => h) (fun h => h.1)⟩
  · have u1 := hU5.trans hU6 (fun i hi => Or.inl hi)
    have u2 := u1.trans (Upd.of_below (S := S) hb7) (fun i hi => Or.inl hi)
    have u3 := u2.trans (Upd.of_below (S := S) hal) (fun i hi => Or.inl hi)
    have u4 := u3.trans (Upd.of_row hgrow hrl) (fun i hi => Or.inl hi)
    exact u4.trans (Upd.of_grown (S := S) (grown_setCell w8 g 0 _) (Or.inl hgS)) (fun i hi => Or.inl hi)
  · rw [hBS]
    refine ⟨[(id, (lp, kp, cp))], some ⟨g2, 0, none⟩, k + 1, cap2, M', I, ?_⟩
    have hkl := hc.num
    constructor
    · simp [World.setCell, Array.getElem?_modify, hg8]
    · exact Or.inl hgS
    · exact Or.inr ⟨hM, by omega⟩
    · exact Or.inl hc.mI
    · intro r hr
      have hr' : g2 = r := by simpa [Value.ownBlock] using hr
      subst hr'
      rcases hat with h | h
      · exact Or.inl (hrl _ h)
      · exact Or.inr ⟨by omega, hlt8⟩
    · exact fun e => hIM e.symm
    · intro i hi
      rw [hs9]
      rcases hi with hi | hi
      · have := hlt i hi; omega
      · exact hi.2
    · rw [balS_snoc]
      refine BalM.mono (hM6.of_heap (keep M' hMl (fun e => hgM e.symm) (fun r hr e => ?_))) (by simp; omega)
      have := hlt r (hrl r hr)
      omega
    · have := hI6.of_heap (keep I hIl (fun e => hgI e.symm) (fun r hr e => (hrow r hr).2 e.symm))
      simpa using this
    · have : flat RawE (rs ++ [(id, (lp, kp, cp))]) = flat RawE rs ++ [.int .i64 id, .slice lp kp cp] := by rw [flat_append, flat_single]; rfl
      rw [this]
      refine row_of_heap hown (fun r hr => ?_)
      have hr' : g2 = r := by simpa [Value.ownBlock] using hr
      subst hr'
      exact Below.heap_setCell _ _ _ _ hg2
    · refine BooksIn.snoc ⟨hB6.1, fun i h1 h2 => ⟨(hB6.2 i h1 h2).1, (hB6.2 i h1 h2).2.1, fun hn => ?_⟩⟩ rfl ⟨ho7.1, fun hn => ?_⟩
      · obtain ⟨p, e, hp, hr⟩ := (hB6.2 i h1 h2).2.2 hn
        refine ⟨p, e, Or.inl hp, ?_⟩
        obtain ⟨arr, ha, rest⟩ := hr
        refine ⟨arr, (keep p (lt_of_block ha) (type_ne ha hg6 (by decide)) (fun r hr => ?_)).trans ha, rest⟩
        rcases hR6.2 with ⟨e0, _⟩ | ⟨r', cap, cur, e0, _, hh, _⟩
        · rw [e0] at hr; simp [Value.ownBlock] at hr
        · rw [e0] at hr
          have hr' : r' = r := by simpa [Value.ownBlock] using hr
          subst hr'
          exact type_ne ha hh (by decide)
      · obtain ⟨p, e, hp, hr⟩ := ho7.2 hn
        obtain ⟨arr, ha, rest⟩ := hr
        have hpl := lt_of_block ha
        refine ⟨p, e, Or.inr ⟨by omega, by omega⟩, arr, ?_, rest⟩
        rw [Below.heap_setCell _ _ _ _ (by show p ≠ g; omega)]
        refine (hgrow.block p (by rw [hsa]; omega) (fun e => ?_)).trans ((hal.block p hpl).trans ha)
        have := hlt p (hrl p e.symm)
        omega
    · exact hc.ok.next hbs hE
end Go.Proofs.Ytafhdpalobalkaa
