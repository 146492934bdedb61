/- hall: foyerref10.Mark. -/
import Derived.Test.YtmcdhggnpfhlmaaQHCB17

namespace Go.Proofs.Ytmcdhggnpfhlmaa
open Go.RowKit Go.IntWalk
set_option linter.unusedSimpArgs false
set_option linter.unusedVariables false

theorem mark_hit {ms : List MarkR} {s : Int} {i : Nat} (hi : i < ms.length) (he : ms[i].seat = s) (h : ∀ j (hj : j < ms.length), j < i → ms[j].seat ≠ s) : markS ms s = ms[i] := by
  unfold markS
  rw [List.find?_eq_some_iff_getElem.2 ⟨by simpa using he, i, hi, rfl, fun j hj => by simp [h j (by omega) hj]⟩]
  rfl
theorem mark_none {ms : List MarkR} {s : Int} (h : ∀ j (hj : j < ms.length), ms[j].seat ≠ s) : markS ms s = ⟨0, 0, 0⟩ := by
  unfold markS
  rw [List.find?_eq_none.2 ?_]
  · rfl
  · intro x hx
    obtain ⟨j, hj, rfl⟩ := List.mem_iff_getElem.1 hx
    simp [h j hj]

set_option maxRecDepth 100000 in
set_option maxHeartbeats 8000000 in
theorem refmark_any (w : World) (r : RowR) (s : Int) (hr : r.In w) :
    Calls Try.prog 18 #[.agg #[.string (bs r.name), .int .i64 r.x, .int .i64 r.y, .int .i64 r.fr, .int .i64 r.to, .int .i64 r.step, .slice r.ma r.mn r.mc, .int .i64 r.at'], .int .i64 s] w
      fun e w' => e = .returned (.agg #[.int .i64 (markS r.marks s).kind, .int .i64 (markS r.marks s).seat, .int .i64 (markS r.marks s).wth]) ∧ Below w.heap.size w w' := by
  have HRI := Lib.hid hr
  have HLM := Lib.hid hr.marks.1
  have HMH := Lib.hid (fun i hi he h => mark_hit (ms := r.marks) (s := s) (i := i) hi he h)
  have HMN := Lib.hid (mark_none (ms := r.marks) (s := s))
  have hmn : r.mn ≤ 9223372036854775807 := hr.mn
  clear hr
  generalize markS r.marks s = mk at *
  refine enter_fr (N := 27) [.agg #[.string (bs r.name), .int .i64 r.x, .int .i64 r.y, .int .i64 r.fr, .int .i64 r.to, .int .i64 r.step, .slice r.ma r.mn r.mc, .int .i64 r.at'], .int .i64 s] (Try.func18) rfl Try.ntmps18 (by rfl) (fun a hF => ?_);replace hF := hF.kp [0, 1] rfl;refine wp_seq_k (fun K hK => ?_);refine region_seq (l := [0, 1]) (by kernel_rfl) ?_;refine seq_one ?_;refine ze1 0 rfl rfl rfl hF rfl rfl ?_;clear hF;refine fun a hF => ?_
  have HX : Hid (RowIn (w.alloc (.cells #[.string (bs r.name), .int .i64 r.x, .int .i64 r.y, .int .i64 r.fr, .int .i64 r.to, .int .i64 r.step, .slice r.ma r.mn r.mc, .int .i64 r.at'] 54)) w.heap.size r) := World.alloc_heap_new w _
  have HB1 := Lib.hid (Joins.below_alloc1 w (.cells #[.string (bs r.name), .int .i64 r.x, .int .i64 r.y, .int .i64 r.fr, .int .i64 r.to, .int .i64 r.step, .slice r.ma r.mn r.mc, .int .i64 r.at'] 54))
  generalize w.alloc (.cells #[.string (bs r.name), .int .i64 r.x, .int .i64 r.y, .int .i64 r.fr, .int .i64 r.to, .int .i64 r.step, .slice r.ma r.mn r.mc, .int .i64 r.at'] 54) = w1 at *
  obtain ⟨gr, hgr⟩ : ∃ gr, gr = w.heap.size := ⟨_, rfl⟩
  rw [← hgr] at hF HX
  clear hgr
  refine seq_one ?_;refine ze0 rfl rfl rfl hF rfl ?_;clear hF;refine fun a hF => ?_
  have HZ : Hid ((w1.alloc (.cells #[.int .i64 0, .int .i64 0, .int .i64 0] 68)).heap[w1.heap.size]? = some (.cells #[.int .i64 0, .int .i64 0, .int .i64 0] 68 (0, 0))) := World.alloc_heap_new w1 _
  have HBa := Lib.hid (Joins.below_alloc1 w1 (.cells #[.int .i64 0, .int .i64 0, .int .i64 0] 68))
  have HB3 : Hid (Below w.heap.size w (w1.alloc (.cells #[.int .i64 0, .int .i64 0, .int .i64 0] 68))) := HB1.out.trans (HBa.out.mono HB1.out.size)
  have HX3 := Lib.hid (HX.out.down HBa.out)
  have hgm0 : w.heap.size ≤ w1.heap.size := HB1.out.size
  clear HX HB1 HBa
  generalize w1.alloc (.cells #[.int .i64 0, .int .i64 0, .int .i64 0] 68) = w3 at *
  obtain ⟨gm, hgm⟩ : ∃ gm, gm = w1.heap.size := ⟨_, rfl⟩
  rw [← hgm] at hF HZ hgm0
  clear hgm
  refine seq_end ?_;replace hF := hF.kp [1, 2, 4] rfl;refine hK _ _ ?_;clear hK;(try clear K);refine wp_seq_k (fun KA hKA => ?_);refine wp_seq_k (fun K hK => ?_)
  obtain ⟨c0, c1, c2, c3, c4, c5, c6, c7⟩ := HX3.out.cells
  clear c0 c1 c2 c3 c4 c5 c7
  have z0 : w3.cell? ⟨gm, 0, none⟩ = some (.int .i64 0) := boxed_cell (j := 0) HZ.out rfl
  have z1 : w3.cell? ⟨gm, 1, none⟩ = some (.int .i64 0) := boxed_cell (j := 1) HZ.out rfl
  have z2 : w3.cell? ⟨gm, 2, none⟩ = some (.int .i64 0) := boxed_cell (j := 2) HZ.out rfl
  have f0 := free_var (o := 0) HZ.out
  have f1 := free_var (o := 1) HZ.out
  have f2 := free_var (o := 2) HZ.out
  refine region_sk [0] [] hF fun C hC => ?_;clear hF;refine za rfl rfl rfl ?_;refine hC _ (fun a hF => ?_);clear hC C;refine seq_end ?_;replace hF := hF.kp [1, 2, 4, 5] rfl;refine hK _ _ ?_;clear hK;(try clear K)
  refine wp_block ?_
  refine loop_fr (fun n a' w' => ∃ i : Nat, i + n = r.mn ∧ FrF 27 [] [(1, .int .i64 s), (2, .pointer (some ⟨gr, 0, none⟩)), (4, .pointer (some ⟨gm, 0, none⟩)), (5, .int .i64 i)] a' ∧ w' = w3 ∧ Hid (∀ j (hj : j < r.marks.length), j < i → r.marks[j].seat ≠ s)) r.mn ⟨0, by omega, hF.sub ⟨rfl, rfl, rfl, rfl, trivial⟩, rfl, fun j _ hj => absurd hj (Nat.not_lt_zero _)⟩ ?_
  clear hF
  rintro rk a wr ⟨i, hik, hF, rfl, HP⟩ KB hKB
  refine wp_seq_k (fun K hK => ?_);refine wp_seq_k (fun K hK => ?_)
  by_cases hlt : i < r.mn
  rotate_left
  · have hil0 : ¬ (i : Int) < r.mn := by omega
    refine region_sk [0, 1, 2, 3, 4] [] hF fun C hC => ?_;clear hF;refine zm rfl rfl rfl ?_;refine zs1 2 rfl rfl ?_;refine zs1 7 rfl rfl ?_;refine zs1 8 rfl rfl ?_;refine zs2 6 9 rfl rfl rfl ?_;refine hC _ (fun a hF => ?_);clear hC C;refine seq_end ?_;replace hF := hF.kp [1, 2, 4, 5, 10] rfl;refine hK _ _ ?_;clear hK;(try clear K)
    refine cond_no hF rfl ?_
    refine wp_exit ?_
    have HE : Hid (mk = ⟨0, 0, 0⟩) := HMN.out fun j hj => HP.out j hj (by have := HLM.out; omega)
    refine hKA _ _ ?_;clear hKA;(try clear KA);replace hF := hF.kp [4] rfl;refine wp_seq_k (fun K hK => ?_);refine region_sk [0] [1] hF fun C hC => ?_;clear hF;refine zs0 rfl ?_;refine hC _ (fun a hF => ?_);clear hC C;refine seq_one ?_;refine zu2 4 26 rfl rfl hF rfl rfl rfl ?_;clear hF;refine fun a hF => ?_
    have hW := set3 (x := .int .i64 0) (y := .int .i64 0) (z := .int .i64 0) HZ.out
    have hBW : Below w.heap.size w (((wr.setCell ⟨gm, 0, none⟩ (.int .i64 0)).setCell ⟨gm, 1, none⟩ (.int .i64 0)).setCell ⟨gm, 2, none⟩ (.int .i64 0)) := ((HB3.out.trans (below_set hgm0)).trans (below_set hgm0)).trans (below_set hgm0)
    generalize ((wr.setCell ⟨gm, 0, none⟩ (.int .i64 0)).setCell ⟨gm, 1, none⟩ (.int .i64 0)).setCell ⟨gm, 2, none⟩ (.int .i64 0) = w5 at *
    have g0 : w5.cell? ⟨gm, 0, none⟩ = some (.int .i64 0) := boxed_cell (j := 0) hW rfl
    have g1 : w5.cell? ⟨gm, 1, none⟩ = some (.int .i64 0) := boxed_cell (j := 1) hW rfl
    have g2 : w5.cell? ⟨gm, 2, none⟩ = some (.int .i64 0) := boxed_cell (j := 2) hW rfl
    have hlv : (loadVar 68 ⟨gm, 0, none⟩).run Try.prog w5 = .ok (.agg #[.int .i64 0, .int .i64 0, .int .i64 0]) w5 := by
      clear hF hW hBW HZ HB3 z0 z1 z2 f0 f1 f2
      go_simp
    refine seq_end ?_;replace hF := hF.kp [4] rfl;refine hK _ _ ?_;clear hK;(try clear K)
    refine wp_ret ?_
    try simp only [then_ret, block_ret, goto_ret]
    refine ret_cell (fn := Try.f18) rfl hF rfl hlv ?_
    exact ⟨by rw [HE.out], hBW⟩
  have hii : (i : Int) < r.mn := by omega
  refine region_sk [0, 1, 2, 3, 4] [] hF fun C hC => ?_;clear hF;refine zm rfl rfl rfl ?_;refine zs1 2 rfl rfl ?_;refine zs1 7 rfl rfl ?_;refine zs1 8 rfl rfl ?_;refine zs2 6 9 rfl rfl rfl ?_;refine hC _ (fun a hF => ?_);clear hC C;refine seq_end ?_;replace hF := hF.kp [1, 2, 4, 5, 10] rfl;refine hK _ _ ?_;clear hK;(try clear K)
  refine cond_yes hF rfl ?_
  refine wp_skip ?_
  refine hK _ _ ?_;clear hK;(try clear K);replace hF := hF.kp [1, 2, 4, 5] rfl
  clear hKA
  have hil : i < r.marks.length := by rw [HLM.out]; exact hlt
  refine seq_cut (fun a' w' => FrF 27 [] [(1, .int .i64 s), (2, .pointer (some ⟨gr, 0, none⟩)), (4, .pointer (some ⟨gm, 0, none⟩)), (5, .int .i64 i)] a' ∧ w' = wr ∧ Hid (∀ j (hj : j < r.marks.length), j < i + 1 → r.marks[j].seat ≠ s)) (fun KC hKC => ?_) ?_
  rotate_left
  · clear hF HP
    rintro a w' ⟨hF, rfl, HP⟩
    have hws : IntKind.i64.wrap ((i : Int) + 1) = ((i + 1 : Nat) : Int) := wrap_succ (by omega)
    refine region_sk [0, 1, 2] [] hF fun C hC => ?_;clear hF;refine zm rfl rfl rfl ?_;refine zs1 11 rfl rfl ?_;refine za rfl rfl rfl ?_;refine hC _ (fun a hF => ?_);clear hC C;refine seq_end ?_;replace hF := hF.kp [1, 2, 4, 5] rfl
    exact hKB (r.mn - (i + 1)) _ _ (by omega) ⟨i + 1, by omega, hF, rfl, HP⟩
  clear hKB hik
  refine wp_block ?_
  refine wp_seq_k (fun K hK => ?_)
  obtain ⟨b, o, hma, e0, e1, e2⟩ := mark_at (HRI.out.marks.below HB3.out) i hlt hil
  have HMI := Lib.hid (HMH.out i hil)
  have HPN : Hid (r.marks[i].seat ≠ s → ∀ j (hj : j < r.marks.length), j < i + 1 → r.marks[j].seat ≠ s) := fun h j hj hji => by
    by_cases e : j = i
    · subst e; exact h
    · exact HP.out j hj (by omega)
  generalize r.marks[i] = mi at *
  by_cases he : mi.seat = s
  rotate_left
  · have hb : (mi.seat == s) = false := by simp [he]
    refine region_sk [0, 1, 2, 3, 4, 5, 6, 7] [] hF fun C hC => ?_;clear hF;refine zs1 2 rfl rfl ?_;refine zs1 13 rfl rfl ?_;refine zm rfl rfl rfl ?_;refine zs2 14 15 rfl rfl rfl ?_;refine zs1 16 rfl rfl ?_;refine zs1 17 rfl rfl ?_;refine zm rfl rfl rfl ?_;refine zs2 18 19 rfl rfl rfl ?_;refine hC _ (fun a hF => ?_);clear hC C;refine seq_end ?_;replace hF := hF.kp [1, 2, 4, 5, 20] rfl;refine hK _ _ ?_;clear hK;(try clear K)
    refine cond_no hF rfl ?_
    refine wp_skip ?_
    exact hKC _ _ ⟨hF.sub ⟨rfl, rfl, rfl, rfl, trivial⟩, rfl, HPN.out he⟩
  · have hb : (mi.seat == s) = true := by simp [he]
    have HE : Hid (mk = mi) := HMI.out he HP.out
    clear HMI HPN he
    refine region_sk [0, 1, 2, 3, 4, 5, 6, 7] [] hF fun C hC => ?_;clear hF;refine zs1 2 rfl rfl ?_;refine zs1 13 rfl rfl ?_;refine zm rfl rfl rfl ?_;refine zs2 14 15 rfl rfl rfl ?_;refine zs1 16 rfl rfl ?_;refine zs1 17 rfl rfl ?_;refine zm rfl rfl rfl ?_;refine zs2 18 19 rfl rfl rfl ?_;refine hC _ (fun a hF => ?_);clear hC C;refine seq_end ?_;replace hF := hF.kp [1, 2, 4, 5, 20] rfl;refine hK _ _ ?_;clear hK;(try clear K)
    refine cond_yes hF rfl ?_
    refine wp_seq_k (fun K hK => ?_);refine region_sk [0, 1, 2, 3, 4] [5] hF fun C hC => ?_;clear hF;refine zs1 2 rfl rfl ?_;refine zs1 21 rfl rfl ?_;refine zm rfl rfl rfl ?_;refine zs2 22 23 rfl rfl rfl ?_;refine zs1 24 rfl rfl ?_;refine hC _ (fun a hF => ?_);clear hC C;refine seq_one ?_;refine zu2 4 25 rfl rfl hF rfl rfl rfl ?_;clear hF;refine fun a hF => ?_
    have hW := set3 (x := .int .i64 mi.kind) (y := .int .i64 mi.seat) (z := .int .i64 mi.wth) HZ.out
    have hBW : Below w.heap.size w (((wr.setCell ⟨gm, 0, none⟩ (.int .i64 mi.kind)).setCell ⟨gm, 1, none⟩ (.int .i64 mi.seat)).setCell ⟨gm, 2, none⟩ (.int .i64 mi.wth)) := ((HB3.out.trans (below_set hgm0)).trans (below_set hgm0)).trans (below_set hgm0)
    generalize ((wr.setCell ⟨gm, 0, none⟩ (.int .i64 mi.kind)).setCell ⟨gm, 1, none⟩ (.int .i64 mi.seat)).setCell ⟨gm, 2, none⟩ (.int .i64 mi.wth) = w5 at *
    have g0 : w5.cell? ⟨gm, 0, none⟩ = some (.int .i64 mi.kind) := boxed_cell (j := 0) hW rfl
    have g1 : w5.cell? ⟨gm, 1, none⟩ = some (.int .i64 mi.seat) := boxed_cell (j := 1) hW rfl
    have g2 : w5.cell? ⟨gm, 2, none⟩ = some (.int .i64 mi.wth) := boxed_cell (j := 2) hW rfl
    have hlv : (loadVar 68 ⟨gm, 0, none⟩).run Try.prog w5 = .ok (.agg #[.int .i64 mi.kind, .int .i64 mi.seat, .int .i64 mi.wth]) w5 := by
      clear hF hW hBW HZ HB3 z0 z1 z2 f0 f1 f2
      go_simp
    refine seq_end ?_;replace hF := hF.kp [4] rfl;refine hK _ _ ?_;clear hK;(try clear K)
    refine wp_ret ?_
    try simp only [then_ret, block_ret, goto_ret]
    refine ret_cell (fn := Try.f18) rfl hF rfl hlv ?_
    exact ⟨by rw [HE.out], hBW⟩
end Go.Proofs.Ytmcdhggnpfhlmaa
