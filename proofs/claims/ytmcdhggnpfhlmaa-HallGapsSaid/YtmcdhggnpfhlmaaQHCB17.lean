/- Frames by what is known of their slots: a result that lies in a variable; hall: mark; hall: seats: a function called for each place of a row. -/
import Derived.Test.YtmcdhggnpfhlmaaQHCB01
import Derived.Test.YtmcdhggnpfhlmaaQHCB16

namespace Go.Proofs.Ytmcdhggnpfhlmaa
theorem ret_cell {P : Program} {N : Nat} {e : List (Nat × Value)} {w : World} {a : Act} {fn : Func} {s : Tmp} {t : TypeId} {ad : Addr} {v : Value} {R : Ending → World → Prop} (hrs : fn.results = #[.cell s t]) (hF : FrF N [] e a) (hs : lookF e s = some (.pointer (some ad))) (hl : (loadVar t ad).run P w = .ok v w) (hR : R (.returned v) w) : bodyPost P fn R .ret a w := by
  refine ⟨hF.defers, v, ?_, hR⟩
  have h := hF.slot s _ hs
  unfold results
  rw [hrs]
  simp [h, asAddr, hl]
end Go.Proofs.Ytmcdhggnpfhlmaa

namespace Go.Proofs.Ytmcdhggnpfhlmaa
open Go.RowKit Go.IntWalk
set_option linter.unusedSimpArgs false
set_option linter.unusedVariables false

set_option maxRecDepth 100000 in
set_option maxHeartbeats 8000000 in
theorem mark1_any (w : World) (m : MarkR) (gs : Nat) (s : Int) (h : w.cell? ⟨gs, 0, none⟩ = some (.int .i64 s)) :
    Calls Try.prog 71 #[.agg #[.int .i64 m.kind, .int .i64 m.seat, .int .i64 m.wth], .pointer (some ⟨gs, 0, none⟩)] w fun e w' => e = .returned (.bool (decide (m.seat = s))) ∧ Below w.heap.size w w' := by
  refine enter_fr (N := 8) [.agg #[.int .i64 m.kind, .int .i64 m.seat, .int .i64 m.wth], .pointer (some ⟨gs, 0, none⟩)] (Try.func71) rfl Try.ntmps71 (by rfl) (fun a hF => ?_);replace hF := hF.kp [0, 1] rfl;refine wp_seq_k (fun K hK => ?_);refine region_seq (l := [0, 1]) (by kernel_rfl) ?_;refine seq_one ?_;refine ze1 0 rfl rfl rfl hF rfl rfl ?_;clear hF;refine fun a hF => ?_;refine seq_ck [1] [] hF fun C hC => ?_;clear hF;refine za rfl rfl rfl ?_;refine hC _ (fun a hF => ?_);clear hC C;refine seq_end ?_;replace hF := hF.kp [1, 2] rfl;refine hK _ _ ?_;clear hK;(try clear K)
  have HB := Lib.hid (Joins.below_alloc1 w (.cells #[.int .i64 m.kind, .int .i64 m.seat, .int .i64 m.wth] 68))
  have HX : Hid (MarkIn (w.alloc (.cells #[.int .i64 m.kind, .int .i64 m.seat, .int .i64 m.wth] 68)) w.heap.size m) := World.alloc_heap_new w _
  have d0 := Below.cell_of HB.out h
  clear h
  generalize w.alloc (.cells #[.int .i64 m.kind, .int .i64 m.seat, .int .i64 m.wth] 68) = w1 at *
  obtain ⟨g, hg⟩ : ∃ g, g = w.heap.size := ⟨_, rfl⟩
  rw [← hg] at hF HX
  clear hg
  obtain ⟨c0, c1, c2⟩ := HX.out.cells
  obtain ⟨k, hk⟩ : ∃ k, decide (m.seat = s) = k := ⟨_, rfl⟩
  have hb : (m.seat == s) = k := by rw [← hk]; rfl
  rw [hk]
  clear hk
  refine wp_seq_k (fun K hK => ?_);refine region_sk [0, 1, 2, 3, 4] [] hF fun C hC => ?_;clear hF;refine zs1 2 rfl rfl ?_;refine zs1 4 rfl rfl ?_;refine zs1 1 rfl rfl ?_;refine zs2 5 6 rfl rfl rfl ?_;refine za rfl rfl rfl ?_;refine hC _ (fun a hF => ?_);clear hC C;refine seq_end ?_;replace hF := hF.kp [3] rfl;refine hK _ _ ?_;clear hK;(try clear K);refine wp_ret ?_;(try simp only [then_ret, block_ret, goto_ret]);refine ret_fr (fn := Try.f71) (rs := [.tmp 3]) rfl [_] hF ⟨rfl, trivial⟩ ?_
  exact ⟨rfl, HB.out⟩

theorem set3 {w : World} {g : Nat} {T : TypeId} {a b c x y z : Value} {q : Nat × Nat} (h : w.heap[g]? = some (.cells #[a, b, c] T q)) : (((w.setCell ⟨g, 0, none⟩ x).setCell ⟨g, 1, none⟩ y).setCell ⟨g, 2, none⟩ z).heap[g]? = some (.cells #[x, y, z] T q) := by
  simp [World.setCell, Array.getElem?_modify, h]

theorem mark_find (ms : List MarkR) (s : Int) : markS ms s = if h : ms.findIdx (fun m => decide (m.seat = s)) < ms.length then ms[ms.findIdx fun m => decide (m.seat = s)] else ⟨0, 0, 0⟩ := by
  unfold markS
  rw [List.find?_eq_getElem?_findIdx]
  by_cases h : ms.findIdx (fun m => decide (m.seat = s)) < ms.length
  · rw [dif_pos h]; simp [h]
  · rw [dif_neg h]; simp [h]

set_option maxRecDepth 100000 in
set_option maxHeartbeats 8000000 in
theorem mark_any (w : World) (r : RowR) (s : Int) (hr : r.In w) :
    Calls Try.prog 53 #[.agg #[.string (bs r.name), .int .i64 r.x, .int .i64 r.y, .int .i64 r.fr, .int .i64 r.to, .int .i64 r.step, .slice r.ma r.mn r.mc, .int .i64 r.at'], .int .i64 s] w
      fun e w' => e = .returned (.agg #[.int .i64 (markS r.marks s).kind, .int .i64 (markS r.marks s).seat, .int .i64 (markS r.marks s).wth]) ∧ Below w.heap.size w w' := by
  have HRI := Lib.hid hr
  have HMF := Lib.hid (mark_find r.marks s)
  clear hr
  generalize markS r.marks s = mk at *
  refine enter_fr (N := 18) [.agg #[.string (bs r.name), .int .i64 r.x, .int .i64 r.y, .int .i64 r.fr, .int .i64 r.to, .int .i64 r.step, .slice r.ma r.mn r.mc, .int .i64 r.at'], .int .i64 s] (Try.func53) rfl Try.ntmps53 (by rfl) (fun a hF => ?_);replace hF := hF.kp [0, 1] rfl;refine wp_seq_k (fun K hK => ?_);refine region_seq (l := [0, 1, 2]) (by kernel_rfl) ?_;refine seq_one ?_;refine ze1 0 rfl rfl rfl hF rfl rfl ?_;clear hF;refine fun a hF => ?_
  have HX : Hid (RowIn (w.alloc (.cells #[.string (bs r.name), .int .i64 r.x, .int .i64 r.y, .int .i64 r.fr, .int .i64 r.to, .int .i64 r.step, .slice r.ma r.mn r.mc, .int .i64 r.at'] 54)) w.heap.size r) := World.alloc_heap_new w _
  have HB1 := Lib.hid (Joins.below_alloc1 w (.cells #[.string (bs r.name), .int .i64 r.x, .int .i64 r.y, .int .i64 r.fr, .int .i64 r.to, .int .i64 r.step, .slice r.ma r.mn r.mc, .int .i64 r.at'] 54))
  generalize w.alloc (.cells #[.string (bs r.name), .int .i64 r.x, .int .i64 r.y, .int .i64 r.fr, .int .i64 r.to, .int .i64 r.step, .slice r.ma r.mn r.mc, .int .i64 r.at'] 54) = w1 at *
  obtain ⟨gr, hgr⟩ : ∃ gr, gr = w.heap.size := ⟨_, rfl⟩
  rw [← hgr] at hF HX
  clear hgr
  refine seq_one ?_;refine ze1 1 rfl rfl rfl hF rfl rfl ?_;clear hF;refine fun a hF => ?_
  have HS : Hid ((w1.alloc (.cells #[.int .i64 s] 3)).heap[w1.heap.size]? = some (.cells #[.int .i64 s] 3 (0, 0))) := World.alloc_heap_new w1 _
  have HBa := Lib.hid (Joins.below_alloc1 w1 (.cells #[.int .i64 s] 3))
  have HB2 : Hid (Below w.heap.size w (w1.alloc (.cells #[.int .i64 s] 3))) := HB1.out.trans (HBa.out.mono HB1.out.size)
  have HX2 := Lib.hid (HX.out.down HBa.out)
  clear HX HB1 HBa
  generalize w1.alloc (.cells #[.int .i64 s] 3) = w2 at *
  obtain ⟨gs, hgs⟩ : ∃ gs, gs = w1.heap.size := ⟨_, rfl⟩
  rw [← hgs] at hF HS
  clear hgs
  refine seq_one ?_;refine ze0 rfl rfl rfl hF rfl ?_;clear hF;refine fun a hF => ?_
  have HZ : Hid ((w2.alloc (.cells #[.int .i64 0, .int .i64 0, .int .i64 0] 68)).heap[w2.heap.size]? = some (.cells #[.int .i64 0, .int .i64 0, .int .i64 0] 68 (0, 0))) := World.alloc_heap_new w2 _
  have HBa := Lib.hid (Joins.below_alloc1 w2 (.cells #[.int .i64 0, .int .i64 0, .int .i64 0] 68))
  have HB3 : Hid (Below w.heap.size w (w2.alloc (.cells #[.int .i64 0, .int .i64 0, .int .i64 0] 68))) := HB2.out.trans (HBa.out.mono HB2.out.size)
  have HX3 := Lib.hid (HX2.out.down HBa.out)
  have HS3 := Lib.hid ((HBa.out.block gs (lt_of_block HS.out)).trans HS.out)
  have hgm0 : w.heap.size ≤ w2.heap.size := HB2.out.size
  clear HX2 HB2 HBa HS
  generalize w2.alloc (.cells #[.int .i64 0, .int .i64 0, .int .i64 0] 68) = w3 at *
  obtain ⟨gm, hgm⟩ : ∃ gm, gm = w2.heap.size := ⟨_, rfl⟩
  rw [← hgm] at hF HZ hgm0
  clear hgm
  refine seq_end ?_;replace hF := hF.kp [2, 3, 4] rfl;refine hK _ _ ?_;clear hK;(try clear K);refine wp_seq_k (fun KA hKA => ?_);refine wp_seq_k (fun K hK => ?_)
  obtain ⟨c0, c1, c2, c3, c4, c5, c6, c7⟩ := HX3.out.cells
  clear c0 c1 c2 c3 c4 c5 c7
  refine region_sk [0, 1, 2] [3, 4] hF fun C hC => ?_;clear hF;refine zs1 2 rfl rfl ?_;refine zs1 6 rfl rfl ?_;refine zs1 3 rfl rfl ?_;refine hC _ (fun a hF => ?_);clear hC C;refine seq_one ?_;refine op_call [_, _] rfl rfl hF rfl (by kernel_rfl) ⟨rfl, rfl, trivial⟩ (fun K hK => ?_);clear hF
  have HIM := Lib.hid (index_mark w3 r.ma r.mn r.mc r.marks (HRI.out.marks.below HB3.out) HRI.out.mn 71 [.pointer (some ⟨gs, 0, none⟩)] (fun m => decide (m.seat = s)) (by kernel_rfl)
    (fun wx hb j hj => mark1_any wx r.marks[j] gs s (Below.cell_of hb (boxed_cell (j := 0) HS3.out rfl))))
  have HIS : Hid (idxS (fun m : MarkR => decide (m.seat = s)) r.marks = if r.marks.findIdx (fun m => decide (m.seat = s)) < r.marks.length then ((r.marks.findIdx fun m => decide (m.seat = s) : Nat) : Int) else -1) := rfl
  generalize idxS (fun m : MarkR => decide (m.seat = s)) r.marks = ix0 at *
  generalize r.marks.findIdx (fun m => decide (m.seat = s)) = fi at *
  refine HIM.out.mono ?_
  rintro e w4 ⟨rfl, hb4⟩
  have HB4 : Hid (Below w.heap.size w w4) := HB3.out.trans (hb4.mono HB3.out.size)
  have HX4 := Lib.hid (HX3.out.down hb4)
  have HZ4 := Lib.hid ((hb4.block gm (lt_of_block HZ.out)).trans HZ.out)
  clear HIM HB3 HX3 HZ HS3 hb4 c6
  obtain ⟨c0, c1, c2, c3, c4, c5, c6, c7⟩ := HX4.out.cells
  clear c0 c1 c2 c3 c4 c5 c7
  have z0 : w4.cell? ⟨gm, 0, none⟩ = some (.int .i64 0) := boxed_cell (j := 0) HZ4.out rfl
  have z1 : w4.cell? ⟨gm, 1, none⟩ = some (.int .i64 0) := boxed_cell (j := 1) HZ4.out rfl
  have z2 : w4.cell? ⟨gm, 2, none⟩ = some (.int .i64 0) := boxed_cell (j := 2) HZ4.out rfl
  have f0 := free_var (o := 0) HZ4.out
  have f1 := free_var (o := 1) HZ4.out
  have f2 := free_var (o := 2) HZ4.out
  refine hK _ _ (fun a hF => ?_);clear hK K;refine seq_ck [4] [] hF fun C hC => ?_;clear hF;refine za rfl rfl rfl ?_;refine hC _ (fun a hF => ?_);clear hC C;refine seq_end ?_;replace hF := hF.kp [2, 4, 5] rfl;refine hK _ _ ?_;clear hK;(try clear K)
  by_cases hfi : fi < r.marks.length
  · have hix : ix0 = fi := by have := HIS.out; rw [if_pos hfi] at this; exact this
    have hmk : mk = r.marks[fi] := by have := HMF.out; rw [dif_pos hfi] at this; exact this
    have hfl : fi < r.mn := by have := HRI.out.marks.1; omega
    have hfli : (fi : Int) < r.mn := by omega
    subst hix
    obtain ⟨b, o, hma, e0, e1, e2⟩ := mark_at (HRI.out.marks.below HB4.out) fi hfl hfi
    rw [← hmk] at e0 e1 e2
    clear hmk HMF HIS
    refine wp_seq_k (fun K hK => ?_);refine region_sk [0, 1] [] hF fun C hC => ?_;clear hF;refine zm rfl rfl rfl ?_;refine zs1 10 rfl rfl ?_;refine hC _ (fun a hF => ?_);clear hC C;refine seq_end ?_;replace hF := hF.kp [2, 4, 5, 11] rfl;refine hK _ _ ?_;clear hK;(try clear K)
    refine cond_yes hF rfl ?_
    refine wp_seq_k (fun K hK => ?_);refine region_sk [0, 1, 2, 3, 4] [5] hF fun C hC => ?_;clear hF;refine zs1 2 rfl rfl ?_;refine zs1 12 rfl rfl ?_;refine zm rfl rfl rfl ?_;refine zs2 13 14 rfl rfl rfl ?_;refine zs1 15 rfl rfl ?_;refine hC _ (fun a hF => ?_);clear hC C;refine seq_one ?_;refine zu2 4 16 rfl rfl hF rfl rfl rfl ?_;clear hF;refine fun a hF => ?_
    have hW := set3 (x := .int .i64 mk.kind) (y := .int .i64 mk.seat) (z := .int .i64 mk.wth) HZ4.out
    have hBW : Below w.heap.size w (((w4.setCell ⟨gm, 0, none⟩ (.int .i64 mk.kind)).setCell ⟨gm, 1, none⟩ (.int .i64 mk.seat)).setCell ⟨gm, 2, none⟩ (.int .i64 mk.wth)) := ((HB4.out.trans (below_set hgm0)).trans (below_set hgm0)).trans (below_set hgm0)
    generalize ((w4.setCell ⟨gm, 0, none⟩ (.int .i64 mk.kind)).setCell ⟨gm, 1, none⟩ (.int .i64 mk.seat)).setCell ⟨gm, 2, none⟩ (.int .i64 mk.wth) = w5 at *
    have g0 : w5.cell? ⟨gm, 0, none⟩ = some (.int .i64 mk.kind) := boxed_cell (j := 0) hW rfl
    have g1 : w5.cell? ⟨gm, 1, none⟩ = some (.int .i64 mk.seat) := boxed_cell (j := 1) hW rfl
    have g2 : w5.cell? ⟨gm, 2, none⟩ = some (.int .i64 mk.wth) := boxed_cell (j := 2) hW rfl
    have hlv : (loadVar 68 ⟨gm, 0, none⟩).run Try.prog w5 = .ok (.agg #[.int .i64 mk.kind, .int .i64 mk.seat, .int .i64 mk.wth]) w5 := by
      clear hF hW hBW HZ4 HB4 z0 z1 z2 f0 f1 f2
      go_simp
    refine seq_end ?_;replace hF := hF.kp [4] rfl;refine hK _ _ ?_;clear hK;(try clear K)
    refine wp_ret ?_
    try simp only [then_ret, block_ret, goto_ret]
    refine ret_cell (fn := Try.f53) rfl hF rfl hlv ?_
    exact ⟨rfl, hBW⟩
  · have hix : ix0 = -1 := by have := HIS.out; rw [if_neg hfi] at this; exact this
    have hmk : mk = ⟨0, 0, 0⟩ := by have := HMF.out; rw [dif_neg hfi] at this; exact this
    subst hix
    subst hmk
    dsimp only at *
    clear HMF HIS
    refine wp_seq_k (fun K hK => ?_);refine region_sk [0, 1] [] hF fun C hC => ?_;clear hF;refine zm rfl rfl rfl ?_;refine zs1 10 rfl rfl ?_;refine hC _ (fun a hF => ?_);clear hC C;refine seq_end ?_;replace hF := hF.kp [2, 4, 5, 11] rfl;refine hK _ _ ?_;clear hK;(try clear K)
    refine cond_no hF rfl ?_
    refine wp_skip ?_
    refine hKA _ _ ?_;clear hKA;(try clear KA);replace hF := hF.kp [4] rfl;refine wp_seq_k (fun K hK => ?_);refine region_sk [0] [1] hF fun C hC => ?_;clear hF;refine zs0 rfl ?_;refine hC _ (fun a hF => ?_);clear hC C;refine seq_one ?_;refine zu2 4 17 rfl rfl hF rfl rfl rfl ?_;clear hF;refine fun a hF => ?_
    have hW := set3 (x := .int .i64 0) (y := .int .i64 0) (z := .int .i64 0) HZ4.out
    have hBW : Below w.heap.size w (((w4.setCell ⟨gm, 0, none⟩ (.int .i64 0)).setCell ⟨gm, 1, none⟩ (.int .i64 0)).setCell ⟨gm, 2, none⟩ (.int .i64 0)) := ((HB4.out.trans (below_set hgm0)).trans (below_set hgm0)).trans (below_set hgm0)
    generalize ((w4.setCell ⟨gm, 0, none⟩ (.int .i64 0)).setCell ⟨gm, 1, none⟩ (.int .i64 0)).setCell ⟨gm, 2, none⟩ (.int .i64 0) = w5 at *
    have g0 : w5.cell? ⟨gm, 0, none⟩ = some (.int .i64 0) := boxed_cell (j := 0) hW rfl
    have g1 : w5.cell? ⟨gm, 1, none⟩ = some (.int .i64 0) := boxed_cell (j := 1) hW rfl
    have g2 : w5.cell? ⟨gm, 2, none⟩ = some (.int .i64 0) := boxed_cell (j := 2) hW rfl
    have hlv : (loadVar 68 ⟨gm, 0, none⟩).run Try.prog w5 = .ok (.agg #[.int .i64 0, .int .i64 0, .int .i64 0]) w5 := by
      clear hF hW hBW HZ4 HB4 z0 z1 z2 f0 f1 f2
      go_simp
    refine seq_end ?_;replace hF := hF.kp [4] rfl;refine hK _ _ ?_;clear hK;(try clear K)
    refine wp_ret ?_
    try simp only [then_ret, block_ret, goto_ret]
    refine ret_cell (fn := Try.f53) rfl hF rfl hlv ?_
    exact ⟨rfl, hBW⟩
end Go.Proofs.Ytmcdhggnpfhlmaa

namespace Go.Proofs.Ytmcdhggnpfhlmaa
open Go.RowKit Go.IntWalk
set_option linter.unusedSimpArgs false
set_option linter.unusedVariables false

/-- A row that has no fault. -/
structure RowOk (r : RowR) : Prop where
  fr : 1 ≤ r.fr
  ft : r.fr ≤ r.to
  to : r.to ≤ 10000
  st : 1 ≤ r.step
  cx : 0 ≤ r.x ∧ r.x ≤ 10000
  cy : 0 ≤ r.y ∧ r.y ≤ 10000
  far : r.fr < r.to → r.step ≤ 10000 ∧ r.x + (r.to - r.fr) * r.step ≤ 10000
  few : r.to - r.fr < 60

/-- The seats among the first i numbers. -/
def seatL (r : RowR) (i : Nat) : List (Int × Int) := ((List.range i).map fun (i : Nat) => (r.fr + i, r.x + i * r.step)).filter fun p => !decide ((markS r.marks p.1).kind = 1)
theorem seatL_all (r : RowR) : seatL r (spanS r.fr r.to) = seatsS r := rfl
theorem seatL_next (r : RowR) (i : Nat) : seatL r (i + 1) = seatL r i ++ if (markS r.marks (r.fr + i)).kind = 1 then [] else [(r.fr + i, r.x + i * r.step)] := by
  unfold seatL
  rw [List.range_succ, List.map_append, List.filter_append]
  congr 1
  by_cases h : (markS r.marks (r.fr + i)).kind = 1 <;> simp [h]
theorem seatL_pre (r : RowR) : ∀ (j i : Nat), seatL r i <+: seatL r (i + j)
  | 0, i => List.prefix_rfl
  | j + 1, i => by
    rw [← Nat.add_assoc, seatL_next]
    exact (seatL_pre r j i).trans (List.prefix_append _ _)
theorem seatL_sub (r : RowR) {i : Nat} (h : i ≤ spanS r.fr r.to) : seatL r i <+: seatsS r := by
  have := seatL_pre r (spanS r.fr r.to - i) i
  rw [show i + (spanS r.fr r.to - i) = spanS r.fr r.to from by omega] at this
  exact this

theorem run_field_mark (a b c : Int) (w : World) : (Instr.field 68 (.agg #[.int .i64 a, .int .i64 b, .int .i64 c]) 0).run Try.prog w = .ok (.int .i64 a) w := by kernel_rfl

/-- Rows in blocks of their own stay. -/
def RowK (w w' : World) : Prop := ∀ (b : Nat) (arr : Array Value) (x : Nat × Nat), w.heap[b]? = some (.cells arr 54 x) → w'.heap[b]? = some (.cells arr 54 x)
theorem RowK.of_below {w w' : World} (h : Below w.heap.size w w') : RowK w w' := fun b _ _ hb => (h.block b (lt_of_block hb)).trans hb

set_option maxRecDepth 100000 in
set_option maxHeartbeats 16000000 in
theorem seats_any (w : World) (r : RowR) (hok : RowOk r) (fid : FuncId) (cap : List Value) (hpl : plainB Try.prog fid = true) (Inv : List (Int × Int) → World → Prop)
    (hin : ∀ l wx, Inv l wx → r.In wx) (hdown : ∀ l wx w', Inv l wx → Below wx.heap.size wx w' → Inv l w')
    (hcb : ∀ l p, (l ++ [p]) <+: seatsS r → ∀ wx, Inv l wx → Calls Try.prog fid (Value.int .i64 p.1 :: Value.int .i64 p.2 :: cap).toArray wx fun e w' => e = .returned (.tuple #[]) ∧ Inv (l ++ [p]) w' ∧ RowK wx w') (h0 : Inv [] w) :
    Calls Try.prog 26 #[.agg #[.string (bs r.name), .int .i64 r.x, .int .i64 r.y, .int .i64 r.fr, .int .i64 r.to, .int .i64 r.step, .slice r.ma r.mn r.mc, .int .i64 r.at'], .func (.func fid) #[] cap.toArray] w
      fun e w' => e = .returned (.tuple #[]) ∧ Inv (seatsS r) w' := by
  obtain ⟨h1, h2, h3, h4, h5, h6, h7, h8⟩ := hok
  have HIN := Lib.hid hin
  have HDN := Lib.hid hdown
  have HCB := Lib.hid hcb
  have HI := Lib.hid h0
  have HFAR := Lib.hid h7
  have hx0 := h5.1
  have hx1 := h5.2
  have hsp : (spanS r.fr r.to : Int) = r.to - r.fr + 1 := by unfold spanS; omega
  have HSP := Lib.hid hsp
  clear hin hdown hcb h0 h5 h6 h7 hsp
  refine enter_fr (N := 31) [.agg #[.string (bs r.name), .int .i64 r.x, .int .i64 r.y, .int .i64 r.fr, .int .i64 r.to, .int .i64 r.step, .slice r.ma r.mn r.mc, .int .i64 r.at'], .func (.func fid) #[] cap.toArray] (Try.func26) rfl Try.ntmps26 (by rfl) (fun a hF => ?_);replace hF := hF.kp [0, 1] rfl;refine wp_seq_k (fun K hK => ?_);refine region_seq (l := [0]) (by kernel_rfl) ?_;refine seq_one ?_;refine ze1 0 rfl rfl rfl hF rfl rfl ?_;clear hF;refine fun a hF => ?_;refine seq_end ?_;replace hF := hF.kp [1, 2] rfl;refine hK _ _ ?_;clear hK;(try clear K)
  have HX : Hid (RowIn (w.alloc (.cells #[.string (bs r.name), .int .i64 r.x, .int .i64 r.y, .int .i64 r.fr, .int .i64 r.to, .int .i64 r.step, .slice r.ma r.mn r.mc, .int .i64 r.at'] 54)) w.heap.size r) := World.alloc_heap_new w _
  have HI1 := Lib.hid (HDN.out _ _ _ HI.out (Joins.below_alloc1 w (.cells #[.string (bs r.name), .int .i64 r.x, .int .i64 r.y, .int .i64 r.fr, .int .i64 r.to, .int .i64 r.step, .slice r.ma r.mn r.mc, .int .i64 r.at'] 54)))
  clear HI
  generalize w.alloc (.cells #[.string (bs r.name), .int .i64 r.x, .int .i64 r.y, .int .i64 r.fr, .int .i64 r.to, .int .i64 r.step, .slice r.ma r.mn r.mc, .int .i64 r.at'] 54) = w1 at *
  obtain ⟨gr, hgr⟩ : ∃ gr, gr = w.heap.size := ⟨_, rfl⟩
  rw [← hgr] at hF HX
  clear hgr
  obtain ⟨c0, c1, c2, c3, c4, c5, c6, c7⟩ := HX.out.cells
  refine wp_seq_k (fun K hK => ?_);refine region_sk [0, 1, 2] [] hF fun C hC => ?_;clear hF;refine zs1 2 rfl rfl ?_;refine zs1 5 rfl rfl ?_;refine za rfl rfl rfl ?_;refine hC _ (fun a hF => ?_);clear hC C;refine seq_end ?_;replace hF := hF.kp [1, 2, 4] rfl;refine hK _ _ ?_;clear hK;(try clear K)
  clear c0 c1 c2 c3 c4 c5 c6 c7
  refine wp_block ?_
  refine loop_fr (fun n a' w' => ∃ i : Nat, i + n = spanS r.fr r.to ∧ FrF 31 [] [(1, .func (.func fid) #[] cap.toArray), (2, .pointer (some ⟨gr, 0, none⟩)), (4, .int .i64 (r.fr + i))] a' ∧ Hid (Inv (seatL r i) w') ∧ Hid (RowIn w' gr r)) (spanS r.fr r.to) ⟨0, by omega, by simpa using hF, HI1, HX⟩ ?_
  clear hF HI1 HX
  rintro rk a wr ⟨i, hik, hF, HI, HX⟩ KB hKB
  obtain ⟨c0, c1, c2, c3, c4, c5, c6, c7⟩ := HX.out.cells
  refine wp_seq_k (fun K hK => ?_);refine wp_seq_k (fun K hK => ?_)
  by_cases hlt : i < spanS r.fr r.to
  rotate_left
  · have hle : decide (r.fr + (i : Int) ≤ r.to) = false := decide_eq_false (by have := HSP.out; omega)
    refine region_sk [0, 1, 2, 3] [] hF fun C hC => ?_;clear hF;refine zm rfl rfl rfl ?_;refine zs1 2 rfl rfl ?_;refine zs1 8 rfl rfl ?_;refine zs2 7 9 rfl rfl rfl ?_;refine hC _ (fun a hF => ?_);clear hC C;refine seq_end ?_;replace hF := hF.kp [1, 2, 4, 10] rfl;refine hK _ _ ?_;clear hK;(try clear K)
    refine cond_no hF rfl ?_
    refine wp_exit ?_
    (try simp only [then_exit, block_exit, block_norm, goto_norm, ↓reduceIte, Nat.reduceEqDiff]);refine end_fr (fn := Try.f26) (rs := []) rfl [] hF trivial ?_
    have hie : i = spanS r.fr r.to := by omega
    refine ⟨rfl, ?_⟩
    rw [← seatL_all, ← hie]
    exact HI.out
  have hle : decide (r.fr + (i : Int) ≤ r.to) = true := decide_eq_true (by have := HSP.out; omega)
  refine region_sk [0, 1, 2, 3] [] hF fun C hC => ?_;clear hF;refine zm rfl rfl rfl ?_;refine zs1 2 rfl rfl ?_;refine zs1 8 rfl rfl ?_;refine zs2 7 9 rfl rfl rfl ?_;refine hC _ (fun a hF => ?_);clear hC C;refine seq_end ?_;replace hF := hF.kp [1, 2, 4, 10] rfl;refine hK _ _ ?_;clear hK;(try clear K)
  refine cond_yes hF rfl ?_
  refine wp_skip ?_
  refine hK _ _ ?_;clear hK;(try clear K);replace hF := hF.kp [1, 2, 4] rfl
  clear hle
  have hib : (i : Int) ≤ 59 := by have := HSP.out; omega
  refine seq_cut (fun a' w' => FrF 31 [] [(1, .func (.func fid) #[] cap.toArray), (2, .pointer (some ⟨gr, 0, none⟩)), (4, .int .i64 (r.fr + i))] a' ∧ Hid (Inv (seatL r (i + 1)) w') ∧ Hid (RowIn w' gr r)) (fun KC hKC => ?_) ?_
  rotate_left
  · clear hF HI HX c0 c1 c2 c3 c4 c5 c6 c7
    rintro a w' ⟨hF, HI, HX⟩
    have hws : IntKind.i64.wrap (r.fr + (i : Int) + 1) = r.fr + ((i + 1 : Nat) : Int) := by rw [wrap_in (by omega) (by omega)]; omega
    refine region_sk [0, 1, 2] [] hF fun C hC => ?_;clear hF;refine zm rfl rfl rfl ?_;refine zs1 11 rfl rfl ?_;refine za rfl rfl rfl ?_;refine hC _ (fun a hF => ?_);clear hC C;refine seq_end ?_;replace hF := hF.kp [1, 2, 4] rfl
    exact hKB (spanS r.fr r.to - (i + 1)) _ _ (by omega) ⟨i + 1, by omega, hF, HI, HX⟩
  clear hKB hik
  have HSN := Lib.hid (seatL_next r i)
  have HPRE : Hid (seatL r (i + 1) <+: seatsS r) := seatL_sub r hlt
  have HPX : Hid (0 ≤ (i : Int) * r.step ∧ r.x + (i : Int) * r.step ≤ 10000) := by
    refine ⟨Int.mul_nonneg (by omega) (by omega), ?_⟩
    by_cases hf : r.fr < r.to
    · obtain ⟨q1, q2⟩ := HFAR.out hf
      have : (i : Int) * r.step ≤ (r.to - r.fr) * r.step := Int.mul_le_mul_of_nonneg_right (by have := HSP.out; omega) (by omega)
      omega
    · have hi0 : i = 0 := by have := HSP.out; omega
      subst hi0
      simp
      exact hx1
  refine wp_block ?_
  refine wp_seq_k (fun K hK => ?_)
  have hfm := run_field_mark
  refine region_sk [0, 1] [2, 3, 4] hF fun C hC => ?_;clear hF;refine zs1 2 rfl rfl ?_;refine zm rfl rfl rfl ?_;refine hC _ (fun a hF => ?_);clear hC C;refine seq_one ?_;refine op_call [_, _] rfl rfl hF rfl (by kernel_rfl) ⟨rfl, rfl, trivial⟩ (fun K hK => ?_);clear hF
  refine (mark_any wr r (r.fr + i) (HIN.out _ _ HI.out)).mono ?_
  rintro e w2 ⟨rfl, hb2⟩
  have HI2 := Lib.hid (HDN.out _ _ _ HI.out hb2)
  have HX2 := Lib.hid (HX.out.down hb2)
  clear HI HX hb2 c0 c1 c2 c3 c4 c5 c6 c7
  obtain ⟨c0, c1, c2, c3, c4, c5, c6, c7⟩ := HX2.out.cells
  clear c0 c2 c4 c6 c7
  generalize (markS r.marks (r.fr + i)).kind = mk at *
  by_cases hk : mk = 1
  · have hkb : (mk != 1) = false := by simp [hk]
    have HSN2 : Hid (seatL r (i + 1) = seatL r i) := by rw [HSN.out, if_pos hk, List.append_nil]; rfl
    clear hk
    refine hK _ _ (fun a hF => ?_);clear hK K;refine seq_ck [3, 4] [] hF fun C hC => ?_;clear hF;refine zs1 15 rfl rfl ?_;refine zs1 16 rfl rfl ?_;refine hC _ (fun a hF => ?_);clear hC C;refine seq_end ?_;replace hF := hF.kp [1, 2, 4, 17] rfl;refine hK _ _ ?_;clear hK;(try clear K)
    refine cond_no hF rfl ?_
    refine wp_skip ?_
    exact hKC _ _ ⟨hF.sub ⟨rfl, rfl, rfl, trivial⟩, by rw [HSN2.out]; exact HI2, HX2⟩
  have hkb : (mk != 1) = true := by simp [hk]
  have HSN2 : Hid (seatL r (i + 1) = seatL r i ++ [(r.fr + i, r.x + i * r.step)]) := by rw [HSN.out, if_neg hk]; rfl
  clear hk
  have hs1 : IntKind.i64.wrap (r.fr + (i : Int) - r.fr) = (i : Int) := by rw [wrap_in (by omega) (by omega)]; omega
  obtain ⟨p, hp⟩ : ∃ p, (i : Int) * r.step = p := ⟨_, rfl⟩
  have hpx := HPX.out
  rw [hp] at hpx HSN2
  obtain ⟨hp0, hp1⟩ := hpx
  have hs2 : IntKind.i64.wrap ((i : Int) * r.step) = p := by rw [hp]; exact wrap_in (by omega) (by omega)
  have hs3 : IntKind.i64.wrap (r.x + p) = r.x + p := wrap_in (by omega) (by omega)
  have HCC := Lib.hid (HCB.out (seatL r i) (r.fr + i, r.x + p) (by rw [← HSN2.out]; exact HPRE.out) w2 HI2.out)
  clear hp HPX
  refine hK _ _ (fun a hF => ?_);clear hK K;refine seq_ck [3, 4] [] hF fun C hC => ?_;clear hF;refine zs1 15 rfl rfl ?_;refine zs1 16 rfl rfl ?_;refine hC _ (fun a hF => ?_);clear hC C;refine seq_end ?_;replace hF := hF.kp [1, 2, 4, 17] rfl;refine hK _ _ ?_;clear hK;(try clear K)
  refine cond_yes hF rfl ?_
  refine region_sk [0, 1, 2, 3, 4, 5, 6, 7, 8, 9, 10, 11] [12] hF fun C hC => ?_;clear hF;refine zm rfl rfl rfl ?_;refine zm rfl rfl rfl ?_;refine zs1 2 rfl rfl ?_;refine zs1 20 rfl rfl ?_;refine zm rfl rfl rfl ?_;refine zs1 2 rfl rfl ?_;refine zs1 23 rfl rfl ?_;refine zs2 22 24 rfl rfl rfl ?_;refine zs1 2 rfl rfl ?_;refine zs1 26 rfl rfl ?_;refine zs2 25 27 rfl rfl rfl ?_;refine zs2 21 28 rfl rfl rfl ?_;refine hC _ (fun a hF => ?_);clear hC C;refine seq_one ?_;refine op_callv [_, _] _ _ rfl rfl hF rfl rfl (by first | assumption | kernel_rfl) ⟨rfl, rfl, trivial⟩ (fun K hK => ?_);clear hF
  refine HCC.out.mono ?_
  rintro e w3 ⟨rfl, hi3, hrk⟩
  refine hK _ _ (fun a hF => ?_);clear hK K;refine seq_end ?_;replace hF := hF.kp [1, 2, 4] rfl
  refine hKC _ _ ⟨hF, ?_, hrk _ _ _ HX2.out⟩
  rw [HSN2.out]
  exact hi3
end Go.Proofs.Ytmcdhggnpfhlmaa
