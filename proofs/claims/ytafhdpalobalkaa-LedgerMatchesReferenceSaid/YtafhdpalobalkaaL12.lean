/- ledger.Book: the walk. -/
import Derived.Deep.RegionHeldLaw
import Derived.Deep.AppendLies
import Derived.Test.YtafhdpalobalkaaLA1
namespace Go.Proofs.Ytafhdpalobalkaa
open Go.RowKit Go.IntWalk Go.Maps Go.ChangeMaps

def BookPost (S : Nat → Prop) (g : Nat) (Bs : List BookT) (b : BookT) (w : World) (e : Ending) (w' : World) : Prop :=
  e = .returned (.int .i64 (bookE Bs b)) ∧ Upd S w w' ∧ ∃ S' : Nat → Prop, LedAt w' S' g (bookS Bs b) ∧ ∀ i, S' i → S i ∨ w.heap.size ≤ i

def BookPostR (S : Nat → Prop) (g : Nat) (Bs : List BookT) (b : BookT) (rs : List RawT) (w : World) (e : Ending) (w' : World) : Prop :=
  e = .returned (.int .i64 (bookE Bs b)) ∧ Upd S w w' ∧ ∃ S' : Nat → Prop, (∃ rs', LedRs w' S' g (bookS Bs b) (rs ++ rs')) ∧ ∀ i, S' i → S i ∨ w.heap.size ≤ i

theorem info_book : (Try.prog.info? 34).map (fun i => (i.zero, i.size, i.bytes)) = some (some (.agg #[.int .i64 0, .slice none 0 0]), 2, 32) := by kernel_rfl

section
variable {P : Program} {ops : Array Oper} {Q : Exit → Act → World → Prop} {md : Region.Mode} {S : World → Prop}

/-- A take, its slot named. -/
theorem take_at {i : Nat} {oi : Oper} {v : Value} {fuel : Nat} {listed : Array Bool} {a : Act} {w : World} (d : Tmp) (hi : ops[i]? = some oi) (hd : oi.dst = some d)
    (hs : Region.noSelect ops = true) (hf : Region.free md ops listed i = true) (hr : (Region.ready md ops listed).contains i = true)
    (hQ : ∀ c a w, Q (.panic c) (a.put oi.dst v) w → Q (.panic c) a w) (hy : YieldsIf P ops S oi v a) (hS : S w)
    (h : wpAnyH P md ops Q S fuel (listed.setIfInBounds i true) (a.put (some d) v) w) : wpAnyH P md ops Q S (fuel + 1) listed a w :=
  wpAnyH_take hi hs hf hr hQ hy hS (by rw [hd]; exact h)
end

theorem IdsM.mapBlock {w : World} {M N : Nat} {f : List BookT} (h : IdsM w M N f) : ∃ es cl, w.heap[M]? = some (.map es cl) := let ⟨_, ⟨es, cl, hb, _⟩, _⟩ := h; ⟨es, cl, hb⟩

theorem bookE_form {Bs : List BookT} {b : BookT} (h : bookE Bs b = 0) : formE b = 0 := by
  unfold bookE at h
  by_cases h1 : formE b = 0
  · exact h1
  · rw [if_pos h1] at h; exact h

/-- The world of Book ahead of its checks. -/
def w4 (w : World) (g : Nat) (id : Int) (ra : Option Addr) (n c : Nat) : World :=
  (((w.alloc (.cells #[.pointer (some ⟨g, 0, none⟩)] 26)).alloc (.cells #[.int .i64 id, .slice ra n c] 34)).alloc (.cells #[.map none] 52)).alloc
    (.cells #[.func (.func 28) #[] #[.pointer (some ⟨w.heap.size, 0, none⟩), .pointer (some ⟨w.heap.size + 1, 0, none⟩)], .func (.func 31) #[] #[.pointer (some ⟨w.heap.size + 1, 0, none⟩)], .func (.func 32) #[] #[.pointer (some ⟨w.heap.size, 0, none⟩), .pointer (some ⟨w.heap.size + 1, 0, none⟩)], .func (.func 33) #[] #[.pointer (some ⟨w.heap.size, 0, none⟩), .pointer (some ⟨w.heap.size + 2, 0, none⟩), .pointer (some ⟨w.heap.size + 1, 0, none⟩)]] 60)

structure W4 (w x : World) (g : Nat) (id : Int) (ra : Option Addr) (n c : Nat) : Prop where
  below : Below w.heap.size w x
  size : x.heap.size = w.heap.size + 4
  lb : x.heap[w.heap.size]? = some (.cells #[.pointer (some ⟨g, 0, none⟩)] 26 (0, 0))
  bb : x.heap[w.heap.size + 1]? = some (.cells #[.int .i64 id, .slice ra n c] 34 (0, 0))
  nb : x.heap[w.heap.size + 2]? = some (.cells #[.map none] 52 (0, 0))
  sb : x.heap[w.heap.size + 3]? = some (.cells #[.func (.func 28) #[] #[.pointer (some ⟨w.heap.size, 0, none⟩), .pointer (some ⟨w.heap.size + 1, 0, none⟩)], .func (.func 31) #[] #[.pointer (some ⟨w.heap.size + 1, 0, none⟩)], .func (.func 32) #[] #[.pointer (some ⟨w.heap.size, 0, none⟩), .pointer (some ⟨w.heap.size + 1, 0, none⟩)], .func (.func 33) #[] #[.pointer (some ⟨w.heap.size, 0, none⟩), .pointer (some ⟨w.heap.size + 2, 0, none⟩), .pointer (some ⟨w.heap.size + 1, 0, none⟩)]] 60 (0, 0))

theorem w4_is (w : World) (g : Nat) (id : Int) (ra : Option Addr) (n c : Nat) : W4 w (w4 w g id ra n c) g id ra n c := by
  have s1 : (w.alloc (.cells #[.pointer (some ⟨g, 0, none⟩)] 26)).heap.size = w.heap.size + 1 := by simp
  have b1 := Joins.below_alloc1 w (.cells #[.pointer (some ⟨g, 0, none⟩)] 26)
  have n1 := World.alloc_heap_new w (.cells #[.pointer (some ⟨g, 0, none⟩)] 26)
  unfold w4
  generalize w.alloc (.cells #[.pointer (some ⟨g, 0, none⟩)] 26) = x1 at *
  have s2 : (x1.alloc (.cells #[.int .i64 id, .slice ra n c] 34)).heap.size = w.heap.size + 2 := by simp [s1]
  have b2 := Joins.below_alloc1 x1 (.cells #[.int .i64 id, .slice ra n c] 34)
  have n2 := World.alloc_heap_new x1 (.cells #[.int .i64 id, .slice ra n c] 34)
  generalize x1.alloc (.cells #[.int .i64 id, .slice ra n c] 34) = x2 at *
  have s3 : (x2.alloc (.cells #[.map none] 52)).heap.size = w.heap.size + 3 := by simp [s2]
  have b3 := Joins.below_alloc1 x2 (.cells #[.map none] 52)
  have n3 := World.alloc_heap_new x2 (.cells #[.map none] 52)
  generalize x2.alloc (.cells #[.map none] 52) = x3 at *
  rw [s1] at n2
  rw [s2] at n3
  generalize hF : Obj.cells _ _ = F
  have b4 := Joins.below_alloc1 x3 F
  have n4 := World.alloc_heap_new x3 F
  rw [s3] at n4
  refine ⟨b1.trans ((b2.trans ((b3.trans (b4.mono b3.size)).mono b2.size)).mono b1.size), by simp [s3], ?_, ?_, ?_, ?_⟩
  · exact (b4.block _ (by omega)).trans ((b3.block _ (by omega)).trans ((b2.block _ (by omega)).trans n1))
  · exact (b4.block _ (by omega)).trans ((b3.block _ (by omega)).trans n2)
  · exact (b4.block _ (by omega)).trans n3
  · rw [n4, ← hF]

set_option maxRecDepth 10000 in
set_option maxHeartbeats 3200000 in
theorem book_rs (S : Nat → Prop) (g : Nat) (Bs : List BookT) (rs : List RawT) (id : Int) (ra : Option Addr) (n c : Nat) (l : List PostT) (w : World) (hL : LedRs w S g Bs rs) (hbs : Bs.length < 100) (hn : n ≤ 9223372036854775807) (hP : Posts w ra n l) (hw : ∀ i, i < l.length → (pn l i).length ≤ maxLen ∧ (Lit.int .i64 (pk l i)).wf = true) :
    Calls Try.prog 12 #[.pointer (some ⟨g, 0, none⟩), .agg #[.int .i64 id, .slice ra n c]] w (BookPostR S g Bs (id, l) rs w) := by
  have H4 := Lib.hid (w4_is w g id ra n c)
  have HL := Lib.hid hL
  have HP := Lib.hid hP
  have HW := Lib.hid hw
  have hlen := hP.1
  clear hL hP hw
  go_enter Try.func12, Try.ntmps12
  go_wp2_with fail
  change Calls Try.prog 27 _ (w4 w g id ra n c) _
  generalize w4 w g id ra n c = x at *
  refine (first_any (w.heap.size + 3) w.heap.size (w.heap.size + 2) (w.heap.size + 1) g S id ra n c l Bs (.map none) x (HL.out.led.below H4.out.below) H4.out.sb H4.out.lb H4.out.nb H4.out.bb hn (HP.out.below H4.out.below) HW.out).mono ?_
  rintro e w5 ⟨rfl, hg5, hM5⟩
  have hs4 := H4.out.size
  have HU5 : Hid (Upd (fun i => w.heap.size ≤ i) x w5) := Upd.of_grown hg5 (Or.inl (by omega))
  have HL5 : Hid (LedRs w5 S g Bs rs) := (HL.out.below H4.out.below).keep (Upd.of_grown (S := fun i => i = w.heap.size + 2) hg5 (Or.inl rfl)) (fun i hi => by
    obtain ⟨_, _, _, _, _, hc⟩ := HL.out
    have := hc.lt i hi
    omega)
  have HLB5 : Hid (w5.heap[w.heap.size]? = some (.cells #[.pointer (some ⟨g, 0, none⟩)] 26 (0, 0))) := (hg5.block _ (by omega) (by simp)).trans H4.out.lb
  have HBB5 : Hid (w5.heap[w.heap.size + 1]? = some (.cells #[.int .i64 id, .slice ra n c] 34 (0, 0))) := (hg5.block _ (by omega) (by simp)).trans H4.out.bb
  have HM5 := Lib.hid hM5
  have HW5 : Hid (Upd S w w5) := (Upd.of_below (S := S) H4.out.below).trans HU5.out (fun i hi => Or.inr hi)
  have hs5 := hg5.size
  have HP5 : Hid (Posts w5 ra n l) := (HP.out.below H4.out.below).far (by decide) H4.out.nb hg5
  clear hg5 hM5
  by_cases her : bookE Bs (id, l) = 0
  · have HBS : Hid (bookS Bs (id, l) = Bs ++ [(id, l)]) := by show _ = _; unfold bookS; rw [if_pos her]
    obtain ⟨M', hm1, hm2, hm3⟩ := HM5.out her
    have HER := Lib.hid her
    rw [her]
    clear her HM5
    obtain ⟨la, k, cc, M, I, hc⟩ := HL5.out
    have HC := Lib.hid hc
    have x0 := box_cell HLB5.out
    have z0 : w5.cell? ⟨w.heap.size + 1, 0, none⟩ = some (.int .i64 id) := by rw [cell_of_row _ _ _ _ _ _ HBB5.out]; rfl
    have z1 : w5.cell? ⟨w.heap.size + 1, 1, none⟩ = some (.slice ra n c) := by rw [cell_of_row _ _ _ _ _ _ HBB5.out]; rfl
    have g0 : w5.cell? ⟨g, 0, none⟩ = some (.slice la k cc) := by rw [cell_of_row _ _ _ _ _ _ hc.box]; rfl
    have g1 : w5.cell? ⟨g, 1, none⟩ = some (.map (some M)) := by rw [cell_of_row _ _ _ _ _ _ hc.box]; rfl
    have g2 : w5.cell? ⟨g, 2, none⟩ = some (.map (some I)) := by rw [cell_of_row _ _ _ _ _ _ hc.box]; rfl
    have gf : ∀ o, w5.frozen? ⟨g, o, none⟩ = false := fun o => by simp only [World.frozen?, hc.box]; simp
    have y0 := box_cell hm1
    have hid := (formed_ok (b := (id, l)) (formE_0 (bookE_form HER.out)) HW.out).2
    have hpo := Lib.hid (formed_ok (b := (id, l)) (formE_0 (bookE_form HER.out)) HW.out).1
    obtain ⟨wd, hwd⟩ : ∃ wd, wd = (w5.setCell ⟨g, 1, none⟩ (.map (some M'))).drew := ⟨_, rfl⟩
    have hgI : g ≠ I := by
      rintro rfl
      obtain ⟨es, cl, he⟩ := hc.ids.mapBlock
      have := hc.box
      rw [he] at this
      simp at this
    have hgM : g ≠ M' := by
      rintro rfl
      have := hc.lt g hc.mg
      have := hm2
      obtain ⟨_, _, _, _, _, hc0⟩ := HL.out
      have := hc0.lt g (hc0.mg)
      omega
    have hIM : I ≠ M' := by
      rintro rfl
      obtain ⟨_, _, _, _, _, hc0⟩ := HL.out
      have := hc0.lt I hc.mI
      have := hm2
      omega
    have hother : ∀ i, i ≠ g → wd.heap[i]? = w5.heap[i]? := fun i hi => by rw [hwd]; exact Below.heap_setCell _ _ _ _ hi
    have hids : IdsM wd I Bs.length Bs := hc.ids.of_heap (hother I (fun e => hgI e.symm))
    have hbl := hc.ok.len
    obtain ⟨v9, st, X, Y, e1, e2, hY⟩ := hids.entry (id, l) hid (by unfold maxLen; omega)
    have hX : (setBlock wd I X).heap[I]? = some X := let ⟨o, ho⟩ := hids.block; set_at ho
    have e3 : (Instr.entryStore 53 (.map (some I)) (.int .i64 (st : Int)) (.bool true)).run Try.prog (setBlock wd I X) = .ok () (setBlock (setBlock wd I X) I Y) := e2 _ hX
    obtain ⟨w6, hw6⟩ : ∃ w6, w6 = setBlock (setBlock wd I X) I Y := ⟨_, rfl⟩
    have h6I : w6.heap[I]? = (setBlock wd I Y).heap[I]? := by rw [hw6, set_at hX]; obtain ⟨o, ho⟩ := hids.block; rw [set_at ho]
    have h6o : ∀ i, i ≠ I → i < w5.heap.size → w6.heap[i]? = wd.heap[i]? := fun i hi hl => by
      have hl2 : i < wd.heap.size := by rw [hwd]; simp [World.setCell]; exact hl
      rw [hw6]
      exact ((set_grown (setBlock wd I X) I Y).block i (by simp [setBlock]; exact hl2) (by simp; exact hi)).trans ((set_grown wd I X).block i hl2 (by simp; exact hi))
    have h6s : w6.heap.size = w5.heap.size := by rw [hw6, hwd]; simp [setBlock, World.setCell]
    have H6g : Hid (w6.heap[g]? = some (.cells #[.slice la k cc, .map (some M'), .map (some I)] 55 (0, 0))) := by
      show _ = _
      rw [h6o g hgI (hc.lt g hc.mg), hwd]
      show (w5.setCell _ _).heap[g]? = _
      simp [World.setCell, Array.getElem?_modify, hc.box]
    have H6U : Hid (Upd S w5 w6) := ⟨by rw [hw6, hwd]; rfl, by rw [hw6, hwd]; rfl, by rw [hw6, hwd]; rfl, Nat.le_of_eq h6s.symm, fun i hi hS => by
      have h1 : i ≠ I := fun e => hS (by rw [e]; exact hc.mI)
      have h2 : i ≠ g := fun e => hS (by rw [e]; exact hc.mg)
      rw [h6o i h1 hi, hother i h2]⟩
    have H6I : Hid (IdsM w6 I (Bs.length + 1) (Bs ++ [(id, l)])) := hY.of_heap h6I
    have H6M : Hid (BalM w6 M' (20 * Bs.length + l.length) (sumF (balS Bs) l l.length)) := hm3.of_heap (by rw [h6o M' (fun e => hIM e.symm) (hm3.lt), hother M' (fun e => hgM e.symm)])
    have hrows : ∀ r, (Value.slice la k cc).ownBlock = some r → r < w5.heap.size ∧ r ≠ g ∧ r ≠ I := fun r hr => by
      rcases hc.row.2 with ⟨e, _⟩ | ⟨r', cap, cur, e, _, hh, _⟩
      · rw [e] at hr; simp [Value.ownBlock] at hr
      · rw [e] at hr
        have hr' : r' = r := by simpa [Value.ownBlock] using hr
        subst hr'
        refine ⟨lt_of_block hh, ?_, ?_⟩
        · rintro rfl
          have := hc.box
          rw [hh] at this
          simp at this
        · rintro rfl
          obtain ⟨es, cl, he⟩ := hc.ids.mapBlock
          rw [hh] at he
          simp at he
    have H6R : Hid (w6.ownsRow 0 34 2 (.slice la k cc) k (flat RawE rs)) := row_of_heap hc.row (fun r hr => by
      obtain ⟨h1, h2, h3⟩ := hrows r hr
      rw [h6o r h3 h1, hother r h2])
    have hnew : ∀ i, w.heap.size ≤ i → i < w5.heap.size → w6.heap[i]? = w5.heap[i]? := fun i h1 h2 => by
      obtain ⟨_, _, _, _, _, hc0⟩ := HL.out
      exact H6U.out.block i h2 (fun hS => by have := hc0.lt i hS; omega)
    have H6B : Hid (BooksIn w6 S rs Bs) := by
      refine ⟨hc.books.1, fun i h1 h2 => ⟨(hc.books.2 i h1 h2).1, (hc.books.2 i h1 h2).2.1, fun hn => ?_⟩⟩
      obtain ⟨r, e, hr, hrr⟩ := (hc.books.2 i h1 h2).2.2 hn
      refine ⟨r, e, hr, ?_⟩
      obtain ⟨arr, ha, rest⟩ := hrr
      have n1 : r ≠ g := by
        rintro rfl
        have := hc.box
        rw [ha] at this
        simp at this
      have n2 : r ≠ I := by
        rintro rfl
        obtain ⟨es, cl, he⟩ := hc.ids.mapBlock
        rw [ha] at he
        simp at he
      exact ⟨arr, (h6o r n2 (lt_of_block ha)).trans ((hother r n1).trans ha), rest⟩
    have H6P : Hid (Posts w6 ra n l) := by
      refine ⟨HP5.out.1, fun i hi => ?_⟩
      obtain ⟨b, o, e, cell⟩ := HP5.out.2 i hi
      refine ⟨b, o, e, fun j hj => ?_⟩
      have c0 := cell j hj
      have n1 : b ≠ g := by
        rintro rfl
        have := cell 1 (by decide)
        rw [cell_of_row _ _ _ _ _ _ hc.box, rc_eq _ _ (by rw [HP5.out.1]; exact hi)] at this
        have h3 : (o + i * 3 + 1) = 0 ∨ (o + i * 3 + 1) = 1 ∨ (o + i * 3 + 1) = 2 ∨ 3 ≤ (o + i * 3 + 1) := by omega
        rcases h3 with h3 | h3 | h3 | h3
        · omega
        · rw [h3] at this; simp [PostE] at this
        · rw [h3] at this; simp [PostE] at this
        · rw [Array.getElem?_eq_none (by simp; omega)] at this; simp at this
      have n2 : b ≠ I := by
        rintro rfl
        obtain ⟨es, cl, he⟩ := hc.ids.mapBlock
        simp only [World.cell?, he] at c0
        simp at c0
      rw [← c0]
      simp only [World.cell?]
      rw [h6o b n2 (cell_lt c0), hother b n1]
    have H6lb : Hid (w6.heap[w.heap.size]? = some (.cells #[.pointer (some ⟨g, 0, none⟩)] 26 (0, 0))) := (hnew _ (Nat.le_refl _) (by omega)).trans HLB5.out
    have H6bb : Hid (w6.heap[w.heap.size + 1]? = some (.cells #[.int .i64 id, .slice ra n c] 34 (0, 0))) := (hnew _ (by omega) (by omega)).trans HBB5.out
    have HSL : Hid (∀ i, S i → i < w.heap.size) := by
      obtain ⟨_, _, _, _, _, hc0⟩ := HL.out
      exact hc0.lt
    have hgl := HSL.out g hc.mg
    have HC := Lib.hid hc
    rw [hwd] at e1 e3 hw6
    clear hc e2 hY hX hids h6o h6I hother hnew hm1 hm3
    go_wp2_with fail
    go_region
    rw [← hw6]
    clear hw6 hwd e1 e3 x0 z0 z1 g0 g1 g2 gf y0
    have x0 := box_cell H6lb.out
    have z0 : w6.cell? ⟨w.heap.size + 1, 0, none⟩ = some (.int .i64 id) := by rw [cell_of_row _ _ _ _ _ _ H6bb.out]; rfl
    have z1 : w6.cell? ⟨w.heap.size + 1, 1, none⟩ = some (.slice ra n c) := by rw [cell_of_row _ _ _ _ _ _ H6bb.out]; rfl
    have g0 : w6.cell? ⟨g, 0, none⟩ = some (.slice la k cc) := by rw [cell_of_row _ _ _ _ _ _ H6g.out]; rfl
    have gf : w6.frozen? ⟨g, 0, none⟩ = false := by simp only [World.frozen?, H6g.out]; simp
    have hs6 : w.heap.size + 4 ≤ w6.heap.size := by omega
    obtain ⟨i1, hj, hj0, hj1, hj2⟩ := info_parts info_book
    have hkn := hpo.out.len
    have hn20 : n ≤ 20 := by have := hlen; omega
    have HKK := Lib.hid HC.out.num.1
    have hk99 : k ≤ 99 := by have := HKK.out; omega
    have HFR : Hid (∀ (w7 w8 : World) (o : Obj) (r : Option Nat), Below w6.heap.size w6 w7 → (w7.alloc o).grownBy w8 r → (∀ b, r = some b → b < w.heap.size ∨ w6.heap.size ≤ b) → w8.cell? ⟨w.heap.size, 0, none⟩ = some (.pointer (some ⟨g, 0, none⟩)) ∧ w8.cell? ⟨w.heap.size + 1, 0, none⟩ = some (.int .i64 id) ∧ w8.cell? ⟨w.heap.size + 1, 1, none⟩ = some (.slice ra n c)) := fun w7 w8 o r hb hg hr => by
      have hs7 := hb.size
      have h1 : w8.heap[w.heap.size]? = some (.cells #[.pointer (some ⟨g, 0, none⟩)] 26 (0, 0)) :=
        (hg.block _ (by simp; omega) (fun e => by have := hr _ e.symm; omega)).trans ((Joins.below_alloc1 w7 o).block _ (by omega) |>.trans ((hb.block _ (by omega)).trans H6lb.out))
      have h2 : w8.heap[w.heap.size + 1]? = some (.cells #[.int .i64 id, .slice ra n c] 34 (0, 0)) :=
        (hg.block _ (by simp; omega) (fun e => by have := hr _ e.symm; omega)).trans ((Joins.below_alloc1 w7 o).block _ (by omega) |>.trans ((hb.block _ (by omega)).trans H6bb.out))
      exact ⟨box_cell h1, by rw [cell_of_row _ _ _ _ _ _ h2]; rfl, by rw [cell_of_row _ _ _ _ _ _ h2]; rfl⟩
    have HFR0 : Hid (∀ w7 : World, Below w6.heap.size w6 w7 → w7.cell? ⟨w.heap.size, 0, none⟩ = some (.pointer (some ⟨g, 0, none⟩)) ∧ w7.cell? ⟨w.heap.size + 1, 0, none⟩ = some (.int .i64 id) ∧ w7.cell? ⟨w.heap.size + 1, 1, none⟩ = some (.slice ra n c)) := fun w7 hb => ⟨Below.cell_of hb x0, Below.cell_of hb z0, Below.cell_of hb z1⟩
    have HFA : Hid (∀ (w7 : World) (o : Obj), Below w6.heap.size w6 w7 → (w7.alloc o).cell? ⟨w.heap.size, 0, none⟩ = some (.pointer (some ⟨g, 0, none⟩)) ∧ (w7.alloc o).cell? ⟨w.heap.size + 1, 0, none⟩ = some (.int .i64 id) ∧ (w7.alloc o).cell? ⟨w.heap.size + 1, 1, none⟩ = some (.slice ra n c)) := fun w7 o hb =>
      have h := hb.trans ((Joins.below_alloc1 w7 o).mono hb.size)
      ⟨Below.cell_of h x0, Below.cell_of h z0, Below.cell_of h z1⟩
    have HOB : Hid (∀ b, (Value.slice la k cc).ownBlock = some b → b < w.heap.size ∨ w6.heap.size ≤ b) := fun b hb => Or.inl (HSL.out b (HC.out.mla b hb))
    have HR7 : Hid (∀ w7 : World, Below w6.heap.size w6 w7 → w7.ownsRow 0 34 2 (.slice la k cc) k (flat RawE rs)) := fun w7 hb => row_of_heap H6R.out (fun r hr => hb.block r (row_lt H6R.out hr))
    have HGB : Hid (∀ (w7 w8 : World) (o : Obj), Below w6.heap.size w6 w7 → (w7.alloc o).grownBy w8 (Value.slice la k cc).ownBlock → w8.cell? ⟨g, 0, none⟩ = some (.slice la k cc) ∧ w8.frozen? ⟨g, 0, none⟩ = false) := fun w7 w8 o hb hg => by
      have hs7 := hb.size
      have h1 : w8.heap[g]? = some (.cells #[.slice la k cc, .map (some M'), .map (some I)] 55 (0, 0)) :=
        (hg.block g (by simp; omega) (fun e => (hrows g e.symm).2.1 rfl)).trans ((Joins.below_alloc1 w7 o).block g (by omega) |>.trans ((hb.block g (by omega)).trans H6g.out))
      exact ⟨by rw [cell_of_row _ _ _ _ _ _ h1]; rfl, by simp only [World.frozen?, h1]; simp⟩
    have HST : Hid (∀ (w8 : World) (v : Value), (w8.cell? ⟨w.heap.size, 0, none⟩ = some (.pointer (some ⟨g, 0, none⟩)) ∧ w8.cell? ⟨w.heap.size + 1, 0, none⟩ = some (.int .i64 id) ∧ w8.cell? ⟨w.heap.size + 1, 1, none⟩ = some (.slice ra n c)) →
        (w8.setCell ⟨g, 0, none⟩ v).cell? ⟨w.heap.size, 0, none⟩ = some (.pointer (some ⟨g, 0, none⟩)) ∧ (w8.setCell ⟨g, 0, none⟩ v).cell? ⟨w.heap.size + 1, 0, none⟩ = some (.int .i64 id) ∧ (w8.setCell ⟨g, 0, none⟩ v).cell? ⟨w.heap.size + 1, 1, none⟩ = some (.slice ra n c)) := fun w8 v h => by
      have e1 := World.cell?_setCell_far w8 ⟨g, 0, none⟩ ⟨w.heap.size, 0, none⟩ v (by show g ≠ w.heap.size; omega)
      have e2 := World.cell?_setCell_far w8 ⟨g, 0, none⟩ ⟨w.heap.size + 1, 0, none⟩ v (by show g ≠ w.heap.size + 1; omega)
      have e3 := World.cell?_setCell_far w8 ⟨g, 0, none⟩ ⟨w.heap.size + 1, 1, none⟩ v (by show g ≠ w.heap.size + 1; omega)
      exact ⟨e1.trans h.1, e2.trans h.2.1, e3.trans h.2.2⟩
    have HFIN : Hid (∀ (w7 : World) (lp : Option Addr) (kp cp g2 cap2 : Nat) (w8 : World), Below w6.heap.size w6 w7 → OwnRecs PostE w7 w6.heap.size 44 lp kp l →
        w8.ownsRow 0 34 2 (.slice (some ⟨g2, 0, none⟩) (k + 1) cap2) (k + 1) (flat RawE rs ++ [.int .i64 id, .slice lp kp cp]) → (w7.alloc (.cells #[.int .i64 id, .slice lp kp cp] 34)).grownBy w8 (Value.slice la k cc).ownBlock → ((Value.slice la k cc).ownBlock = some g2 ∨ g2 = w7.heap.size + 1) → g2 < w8.heap.size →
        Upd S w (w8.setCell ⟨g, 0, none⟩ (.slice (some ⟨g2, 0, none⟩) (k + 1) cap2)) ∧ ∃ S' : Nat → Prop, (∃ rs', LedRs (w8.setCell ⟨g, 0, none⟩ (.slice (some ⟨g2, 0, none⟩) (k + 1) cap2)) S' g (bookS Bs (id, l)) (rs ++ rs')) ∧ ∀ i, S' i → S i ∨ w.heap.size ≤ i) := fun w7 lp kp cp g2 cap2 w8 hb7 ho7 hown hgrow hat hlt8 =>
      book_end HC.out HER.out hbs HSL.out HW5.out H6U.out H6g.out H6I.out H6M.out (by omega) (by omega) H6R.out H6B.out (fun r hr => (hrows r hr).2) hb7 ho7 hown hgrow hat hlt8
    have hn1 : g ≠ w.heap.size := by omega
    have hn2 : g ≠ w.heap.size + 1 := by omega
    have HCL : Hid (Calls Try.prog 35 #[.slice ra n c] w6.drew fun e w' => ∃ la k c', e = .returned (.slice la k c') ∧ Below w6.heap.size w6 w' ∧ OwnRecs PostE w' w6.heap.size 44 la k l) :=
      (clone_posts ra n c l w6.drew H6P.out (by omega)).mono fun e w' ⟨la, k, c', h1, h2, h3⟩ => ⟨la, k, c', h1, (Below.refl _ _).drew.trans h2, h3⟩
    go_wp2_with fail
    -- region 6, by hand
    refine wp_region_held_drew (S := fun w' => w'.cell? ⟨w.heap.size, 0, none⟩ = some (.pointer (some ⟨g, 0, none⟩)) ∧ w'.cell? ⟨w.heap.size + 1, 0, none⟩ = some (.int .i64 id) ∧ w'.cell? ⟨w.heap.size + 1, 1, none⟩ = some (.slice ra n c)) (by kernel_rfl) ⟨x0, z0, z1⟩ (fun hHeld => ?_)
    refine take_at (i := 0) (v := ?_) 28 rfl rfl (by kernel_rfl) (by kernel_rfl) (by kernel_rfl) (fun _ _ _ h => h) (Or.inl ⟨by rfl, ?_⟩) (by assumption) ?_
    rotate_left
    · intro w hSw; go_simp <;> with_reducible rfl
    try simp only [Act.put, List.setIfInBounds_toArray, List.set_cons_zero, List.set_cons_succ]
    refine take_at (i := 1) (v := ?_) 29 rfl rfl (by kernel_rfl) (by kernel_rfl) (by kernel_rfl) (fun _ _ _ h => h) (Or.inl ⟨by rfl, ?_⟩) (by assumption) ?_
    rotate_left
    · intro w hSw; go_simp <;> with_reducible rfl
    try simp only [Act.put, List.setIfInBounds_toArray, List.set_cons_zero, List.set_cons_succ]
    refine take_at (i := 2) (v := ?_) 30 rfl rfl (by kernel_rfl) (by kernel_rfl) (by kernel_rfl) (fun _ _ _ h => h) (Or.inl ⟨by rfl, ?_⟩) (by assumption) ?_
    rotate_left
    · intro w hSw; go_simp <;> with_reducible rfl
    try simp only [Act.put, List.setIfInBounds_toArray, List.set_cons_zero, List.set_cons_succ]
    refine take_at (i := 3) (v := ?_) 31 rfl rfl (by kernel_rfl) (by kernel_rfl) (by kernel_rfl) (fun _ _ _ h => h) (Or.inl ⟨by rfl, ?_⟩) (by assumption) ?_
    rotate_left
    · intro w hSw; go_simp <;> with_reducible rfl
    try simp only [Act.put, List.setIfInBounds_toArray, List.set_cons_zero, List.set_cons_succ]
    refine take_at (i := 5) (v := ?_) 33 rfl rfl (by kernel_rfl) (by kernel_rfl) (by kernel_rfl) (fun _ _ _ h => h) (Or.inl ⟨by rfl, ?_⟩) (by assumption) ?_
    rotate_left
    · intro w hSw; go_simp <;> with_reducible rfl
    try simp only [Act.put, List.setIfInBounds_toArray, List.set_cons_zero, List.set_cons_succ]
    refine take_at (i := 6) (v := ?_) 34 rfl rfl (by kernel_rfl) (by kernel_rfl) (by kernel_rfl) (fun _ _ _ h => h) (Or.inl ⟨by rfl, ?_⟩) (by assumption) ?_
    rotate_left
    · intro w hSw; go_simp <;> with_reducible rfl
    try simp only [Act.put, List.setIfInBounds_toArray, List.set_cons_zero, List.set_cons_succ]
    refine take_at (i := 7) (v := ?_) 35 rfl rfl (by kernel_rfl) (by kernel_rfl) (by kernel_rfl) (fun _ _ _ h => h) (Or.inl ⟨by rfl, ?_⟩) (by assumption) ?_
    rotate_left
    · intro w hSw; go_simp <;> with_reducible rfl
    try simp only [Act.put, List.setIfInBounds_toArray, List.set_cons_zero, List.set_cons_succ]
    refine take_at (i := 8) (v := ?_) 36 rfl rfl (by kernel_rfl) (by kernel_rfl) (by kernel_rfl) (fun _ _ _ h => h) (Or.inl ⟨by rfl, ?_⟩) (by assumption) ?_
    rotate_left
    · intro w hSw; go_simp <;> with_reducible rfl
    try simp only [Act.put, List.setIfInBounds_toArray, List.set_cons_zero, List.set_cons_succ]
    clear x0 z0 z1
    refine wpAnyH_ready (rs := [4, 9]) (by kernel_rfl) (by simp) ?_
    refine AllReadyH.cons rfl (fun K' hK => ?_) (AllReadyH.cons rfl (fun K' hK => ?_) AllReadyH.nil)
    · go_simp
      refine hK.out _ _ (hHeld) (fun hHeld => ?_)
      clear hK K'
      try simp only [Act.put, List.setIfInBounds_toArray, List.set_cons_zero, List.set_cons_succ]
      refine wpAnyH_ready (rs := [9]) (by kernel_rfl) (by simp) ?_
      refine AllReadyH.cons rfl (fun K' hK => ?_) AllReadyH.nil
      go_simp
      refine HCL.out.mono ?_
      rintro e w7 ⟨lp, kp, cp, rfl, hb7, ho7⟩
      have HB7 := Lib.hid hb7
      have HO7 := Lib.hid ho7
      have HS7 := Lib.hid (HFR0.out w7 hb7)
      have hg7 : w7.cell? ⟨g, 0, none⟩ = some (.slice la k cc) := Below.cell_of hb7 g0
      have hs7 := hb7.size
      clear hb7 ho7
      go_simp
      refine hK.out _ _ (HS7.out) (fun hHeld => ?_)
      clear hK K'
      try simp only [Act.put, List.setIfInBounds_toArray, List.set_cons_zero, List.set_cons_succ]
      refine take_at (i := 10) (v := ?_) 38 rfl rfl (by kernel_rfl) (by kernel_rfl) (by kernel_rfl) (fun _ _ _ h => h) (Or.inl ⟨by rfl, ?_⟩) (by assumption) ?_
      rotate_left
      · intro w hSw; go_simp <;> with_reducible rfl
      try simp only [Act.put, List.setIfInBounds_toArray, List.set_cons_zero, List.set_cons_succ]
      refine wpAnyH_ready (rs := [11]) (by kernel_rfl) (by simp) ?_
      refine AllReadyH.cons rfl (fun K' hK => ?_) AllReadyH.nil
      go_simp
      refine hK.out _ _ (HFA.out w7 _ HB7.out) (fun hHeld => ?_)
      clear hK K'
      try simp only [Act.put, List.setIfInBounds_toArray, List.set_cons_zero, List.set_cons_succ]
      refine wpAnyH_ready (rs := [12]) (by kernel_rfl) (by simp) ?_
      refine AllReadyH.cons rfl (fun K' hK => ?_) AllReadyH.nil
      refine step_append_lies _ rfl (.tmp 32) (.tmp 39) 22 rfl 0 34 i1 _ 2 32 Try.underlying22 hj hj0 hj1 hj2 rfl (by decide) (.slice la k cc) k (flat RawE rs) (by simp [Act.eval]) ((HR7.out w7 HB7.out).alloc _) ⟨w7.heap.size, 0, none⟩ 1 1 [.int .i64 id, .slice lp kp cp] (by simp [Act.eval]) rfl (World.news_of_block (cs := #[.int .i64 id, .slice lp kp cp]) (World.alloc_heap_new w7 _)) (by intro u hu; simp at hu; rcases hu with rfl | rfl <;> rfl) (by decide) (by unfold maxLen; omega) (by omega) (Nat.zero_le _) (w7.heap.size + 1) (by simp) ?_
      intro g2 cap2 w8 hown hgrow hat hlt8
      have HF8 := Lib.hid (HFIN.out w7 lp kp cp g2 cap2 w8 HB7.out HO7.out hown hgrow hat hlt8)
      have HS8 := Lib.hid (HFR.out w7 w8 _ _ HB7.out hgrow HOB.out)
      have HG8 := Lib.hid (HGB.out w7 w8 _ HB7.out hgrow)
      clear hown hgrow hat
      have hg8 := HG8.out.1
      have hf8 := HG8.out.2
      refine hK.out _ _ (HS8.out) (fun hHeld => ?_)
      clear hK K'
      try simp only [Act.put, List.setIfInBounds_toArray, List.set_cons_zero, List.set_cons_succ]
      refine take_at (i := 13) (v := ?_) 41 rfl rfl (by kernel_rfl) (by kernel_rfl) (by kernel_rfl) (fun _ _ _ h => h) (Or.inl ⟨by rfl, ?_⟩) (by assumption) ?_
      rotate_left
      · intro w hSw; go_simp <;> with_reducible rfl
      try simp only [Act.put, List.setIfInBounds_toArray, List.set_cons_zero, List.set_cons_succ]
      refine take_at (i := 14) (v := ?_) 42 rfl rfl (by kernel_rfl) (by kernel_rfl) (by kernel_rfl) (fun _ _ _ h => h) (Or.inl ⟨by rfl, ?_⟩) (by assumption) ?_
      rotate_left
      · intro w hSw; go_simp <;> with_reducible rfl
      try simp only [Act.put, List.setIfInBounds_toArray, List.set_cons_zero, List.set_cons_succ]
      refine wpAnyH_ready (rs := [15]) (by kernel_rfl) (by simp) ?_
      refine AllReadyH.cons rfl (fun K' hK => ?_) AllReadyH.nil
      go_simp
      refine hK.out _ _ (HST.out w8 _ HS8.out) (fun hHeld => ?_)
      clear hK K'
      try simp only [Act.put, List.setIfInBounds_toArray, List.set_cons_zero, List.set_cons_succ]
      refine wpAnyH_done (by kernel_rfl) ?_ _
      go_wp2_with fail
      go_ret
      exact ⟨by rw [HER.out]; rfl, HF8.out⟩
    · go_simp
      refine HCL.out.mono ?_
      rintro e w7 ⟨lp, kp, cp, rfl, hb7, ho7⟩
      have HB7 := Lib.hid hb7
      have HO7 := Lib.hid ho7
      have HS7 := Lib.hid (HFR0.out w7 hb7)
      have hg7 : w7.cell? ⟨g, 0, none⟩ = some (.slice la k cc) := Below.cell_of hb7 g0
      have hs7 := hb7.size
      clear hb7 ho7
      go_simp
      refine hK.out _ _ (HS7.out) (fun hHeld => ?_)
      clear hK K'
      try simp only [Act.put, List.setIfInBounds_toArray, List.set_cons_zero, List.set_cons_succ]
      refine take_at (i := 10) (v := ?_) 38 rfl rfl (by kernel_rfl) (by kernel_rfl) (by kernel_rfl) (fun _ _ _ h => h) (Or.inl ⟨by rfl, ?_⟩) (by assumption) ?_
      rotate_left
      · intro w hSw; go_simp <;> with_reducible rfl
      try simp only [Act.put, List.setIfInBounds_toArray, List.set_cons_zero, List.set_cons_succ]
      refine wpAnyH_ready (rs := [4, 11]) (by kernel_rfl) (by simp) ?_
      refine AllReadyH.cons rfl (fun K' hK => ?_) (AllReadyH.cons rfl (fun K' hK => ?_) AllReadyH.nil)
      · go_simp
        refine hK.out _ _ (hHeld) (fun hHeld => ?_)
        clear hK K'
        try simp only [Act.put, List.setIfInBounds_toArray, List.set_cons_zero, List.set_cons_succ]
        refine wpAnyH_ready (rs := [11]) (by kernel_rfl) (by simp) ?_
        refine AllReadyH.cons rfl (fun K' hK => ?_) AllReadyH.nil
        go_simp
        refine hK.out _ _ (HFA.out w7 _ HB7.out) (fun hHeld => ?_)
        clear hK K'
        try simp only [Act.put, List.setIfInBounds_toArray, List.set_cons_zero, List.set_cons_succ]
        refine wpAnyH_ready (rs := [12]) (by kernel_rfl) (by simp) ?_
        refine AllReadyH.cons rfl (fun K' hK => ?_) AllReadyH.nil
        refine step_append_lies _ rfl (.tmp 32) (.tmp 39) 22 rfl 0 34 i1 _ 2 32 Try.underlying22 hj hj0 hj1 hj2 rfl (by decide) (.slice la k cc) k (flat RawE rs) (by simp [Act.eval]) ((HR7.out w7 HB7.out).alloc _) ⟨w7.heap.size, 0, none⟩ 1 1 [.int .i64 id, .slice lp kp cp] (by simp [Act.eval]) rfl (World.news_of_block (cs := #[.int .i64 id, .slice lp kp cp]) (World.alloc_heap_new w7 _)) (by intro u hu; simp at hu; rcases hu with rfl | rfl <;> rfl) (by decide) (by unfold maxLen; omega) (by omega) (Nat.zero_le _) (w7.heap.size + 1) (by simp) ?_
        intro g2 cap2 w8 hown hgrow hat hlt8
        have HF8 := Lib.hid (HFIN.out w7 lp kp cp g2 cap2 w8 HB7.out HO7.out hown hgrow hat hlt8)
        have HS8 := Lib.hid (HFR.out w7 w8 _ _ HB7.out hgrow HOB.out)
        have HG8 := Lib.hid (HGB.out w7 w8 _ HB7.out hgrow)
        clear hown hgrow hat
        have hg8 := HG8.out.1
        have hf8 := HG8.out.2
        refine hK.out _ _ (HS8.out) (fun hHeld => ?_)
        clear hK K'
        try simp only [Act.put, List.setIfInBounds_toArray, List.set_cons_zero, List.set_cons_succ]
        refine take_at (i := 13) (v := ?_) 41 rfl rfl (by kernel_rfl) (by kernel_rfl) (by kernel_rfl) (fun _ _ _ h => h) (Or.inl ⟨by rfl, ?_⟩) (by assumption) ?_
        rotate_left
        · intro w hSw; go_simp <;> with_reducible rfl
        try simp only [Act.put, List.setIfInBounds_toArray, List.set_cons_zero, List.set_cons_succ]
        refine take_at (i := 14) (v := ?_) 42 rfl rfl (by kernel_rfl) (by kernel_rfl) (by kernel_rfl) (fun _ _ _ h => h) (Or.inl ⟨by rfl, ?_⟩) (by assumption) ?_
        rotate_left
        · intro w hSw; go_simp <;> with_reducible rfl
        try simp only [Act.put, List.setIfInBounds_toArray, List.set_cons_zero, List.set_cons_succ]
        refine wpAnyH_ready (rs := [15]) (by kernel_rfl) (by simp) ?_
        refine AllReadyH.cons rfl (fun K' hK => ?_) AllReadyH.nil
        go_simp
        refine hK.out _ _ (HST.out w8 _ HS8.out) (fun hHeld => ?_)
        clear hK K'
        try simp only [Act.put, List.setIfInBounds_toArray, List.set_cons_zero, List.set_cons_succ]
        refine wpAnyH_done (by kernel_rfl) ?_ _
        go_wp2_with fail
        go_ret
        exact ⟨by rw [HER.out]; rfl, HF8.out⟩
      · go_simp
        refine hK.out _ _ (HFA.out w7 _ HB7.out) (fun hHeld => ?_)
        clear hK K'
        try simp only [Act.put, List.setIfInBounds_toArray, List.set_cons_zero, List.set_cons_succ]
        refine wpAnyH_ready (rs := [4]) (by kernel_rfl) (by simp) ?_
        refine AllReadyH.cons rfl (fun K' hK => ?_) AllReadyH.nil
        have hg7a : (w7.alloc (.cells #[.int .i64 id, .slice lp kp cp] 34)).cell? ⟨g, 0, none⟩ = some (.slice la k cc) := Below.cell_of (Joins.below_alloc1 w7 _) hg7
        go_simp
        refine hK.out _ _ (hHeld) (fun hHeld => ?_)
        clear hK K'
        try simp only [Act.put, List.setIfInBounds_toArray, List.set_cons_zero, List.set_cons_succ]
        refine wpAnyH_ready (rs := [12]) (by kernel_rfl) (by simp) ?_
        refine AllReadyH.cons rfl (fun K' hK => ?_) AllReadyH.nil
        refine step_append_lies _ rfl (.tmp 32) (.tmp 39) 22 rfl 0 34 i1 _ 2 32 Try.underlying22 hj hj0 hj1 hj2 rfl (by decide) (.slice la k cc) k (flat RawE rs) (by simp [Act.eval]) ((HR7.out w7 HB7.out).alloc _) ⟨w7.heap.size, 0, none⟩ 1 1 [.int .i64 id, .slice lp kp cp] (by simp [Act.eval]) rfl (World.news_of_block (cs := #[.int .i64 id, .slice lp kp cp]) (World.alloc_heap_new w7 _)) (by intro u hu; simp at hu; rcases hu with rfl | rfl <;> rfl) (by decide) (by unfold maxLen; omega) (by omega) (Nat.zero_le _) (w7.heap.size + 1) (by simp) ?_
        intro g2 cap2 w8 hown hgrow hat hlt8
        have HF8 := Lib.hid (HFIN.out w7 lp kp cp g2 cap2 w8 HB7.out HO7.out hown hgrow hat hlt8)
        have HS8 := Lib.hid (HFR.out w7 w8 _ _ HB7.out hgrow HOB.out)
        have HG8 := Lib.hid (HGB.out w7 w8 _ HB7.out hgrow)
        clear hown hgrow hat
        have hg8 := HG8.out.1
        have hf8 := HG8.out.2
        refine hK.out _ _ (HS8.out) (fun hHeld => ?_)
        clear hK K'
        try simp only [Act.put, List.setIfInBounds_toArray, List.set_cons_zero, List.set_cons_succ]
        refine take_at (i := 13) (v := ?_) 41 rfl rfl (by kernel_rfl) (by kernel_rfl) (by kernel_rfl) (fun _ _ _ h => h) (Or.inl ⟨by rfl, ?_⟩) (by assumption) ?_
        rotate_left
        · intro w hSw; go_simp <;> with_reducible rfl
        try simp only [Act.put, List.setIfInBounds_toArray, List.set_cons_zero, List.set_cons_succ]
        refine take_at (i := 14) (v := ?_) 42 rfl rfl (by kernel_rfl) (by kernel_rfl) (by kernel_rfl) (fun _ _ _ h => h) (Or.inl ⟨by rfl, ?_⟩) (by assumption) ?_
        rotate_left
        · intro w hSw; go_simp <;> with_reducible rfl
        try simp only [Act.put, List.setIfInBounds_toArray, List.set_cons_zero, List.set_cons_succ]
        refine wpAnyH_ready (rs := [15]) (by kernel_rfl) (by simp) ?_
        refine AllReadyH.cons rfl (fun K' hK => ?_) AllReadyH.nil
        go_simp
        refine hK.out _ _ (HST.out w8 _ HS8.out) (fun hHeld => ?_)
        clear hK K'
        try simp only [Act.put, List.setIfInBounds_toArray, List.set_cons_zero, List.set_cons_succ]
        refine wpAnyH_done (by kernel_rfl) ?_ _
        go_wp2_with fail
        go_ret
        exact ⟨by rw [HER.out]; rfl, HF8.out⟩
  · have HBS : Hid (bookS Bs (id, l) = Bs) := by show _ = _; unfold bookS; rw [if_neg her]
    obtain ⟨er, hee⟩ : ∃ er, bookE Bs (id, l) = er := ⟨_, rfl⟩
    have HEE := Lib.hid hee
    rw [hee] at her ⊢
    have e0 : (er == 0) = false := by simp [her]
    clear her hee
    go_wp2_with fail
    go_ret
    exact ⟨by rw [HEE.out]; rfl, HW5.out, S, ⟨[], by rw [HBS.out, List.append_nil]; exact HL5.out⟩, fun i hi => Or.inl hi⟩

theorem book_any (S : Nat → Prop) (g : Nat) (Bs : List BookT) (id : Int) (ra : Option Addr) (n c : Nat) (l : List PostT) (w : World) (hL : LedAt w S g Bs) (hbs : Bs.length < 100) (hn : n ≤ 9223372036854775807) (hP : Posts w ra n l) (hw : ∀ i, i < l.length → (pn l i).length ≤ maxLen ∧ (Lit.int .i64 (pk l i)).wf = true) :
    Calls Try.prog 12 #[.pointer (some ⟨g, 0, none⟩), .agg #[.int .i64 id, .slice ra n c]] w (BookPost S g Bs (id, l) w) := by
  obtain ⟨la, k, cc, M, I, rs, hc⟩ := hL
  refine (book_rs S g Bs rs id ra n c l w ⟨la, k, cc, M, I, hc⟩ hbs hn hP hw).mono ?_
  rintro e w' ⟨h1, h2, S', ⟨rs', h3⟩, h4⟩
  exact ⟨h1, h2, S', h3.led, h4⟩
end Go.Proofs.Ytafhdpalobalkaa
