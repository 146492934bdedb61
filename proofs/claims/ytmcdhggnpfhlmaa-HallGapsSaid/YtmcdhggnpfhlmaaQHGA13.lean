/- HallGaps: the walk. -/
import Derived.Test.YtmcdhggnpfhlmaaQHCB35
import Derived.Test.YtmcdhggnpfhlmaaQHCB38
import Derived.Test.YtmcdhggnpfhlmaaQHGA02
import Derived.Test.YtmcdhggnpfhlmaaQHGA07
import Derived.Test.YtmcdhggnpfhlmaaQHGA10
import Derived.Test.YtmcdhggnpfhlmaaQHGA11
import Derived.Test.YtmcdhggnpfhlmaaQHGA12

namespace Go.Proofs.Ytmcdhggnpfhlmaa
open Go.RowKit Go.IntWalk
set_option linter.unusedSimpArgs false
set_option linter.unusedVariables false

theorem cell_other {w : World} {g b o o' : Nat} {v : Value} (h : b ≠ g) : (w.setCell ⟨g, o, none⟩ v).cell? ⟨b, o', none⟩ = w.cell? ⟨b, o', none⟩ := by
  have h1 : (w.setCell ⟨g, o, none⟩ v).heap[b]? = w.heap[b]? := set_other h
  simp only [World.cell?, h1]
/-- Where a row lies. -/
theorem NBlk.cell {w0 w : World} {b : BlkR} (h : NBlk w0 w b) {k : Nat} (hk : k < b.rows.length) : ∃ g, b.ra = some ⟨g, 0, none⟩ ∧ (∃ A, w.heap[g]? = some (.cells A 54 (0, 0))) ∧ w.cell? ⟨g, k * 8 + 6, none⟩ = some (.slice b.rows[k].ma b.rows[k].mn b.rows[k].mc) ∧ w.frozen? ⟨g, k * 8 + 6, none⟩ = false := by
  have hl : b.rows.length = b.rn := by
    obtain ⟨la, c, e, hr⟩ := OwnRecs.of_row h.own
    exact hr.recs.1
  obtain ⟨g, c', e1, _, _, _, hr⟩ := RecRow.of_row (by omega) h.own
  simp only [Value.slice.injEq] at e1
  obtain ⟨e2, _, _⟩ := e1
  have ho := h.own
  obtain ⟨cur, hh⟩ := own_type ho (r := g) (by rw [e2]; rfl)
  obtain ⟨la, c, e, hr2⟩ := OwnRecs.of_row ho
  simp only [Value.slice.injEq] at e
  have hrc := hr2.recs
  rw [← e.1, e2] at hrc
  obtain ⟨b', o', e3, _, _, _, _, _, _, c6, _⟩ := row_at hrc k (by omega) hk
  simp only [Option.some.injEq, Addr.mk.injEq] at e3
  obtain ⟨rfl, rfl, _⟩ := e3
  rw [Nat.zero_add] at c6
  exact ⟨g, e2, ⟨cur, hh⟩, c6, hr.free _⟩
/-- Where a row's marks are written, and how one comes there. -/
theorem gap_cells {w0 w : World} {h : HallR} {n i k : Nat} (hN : NHall w0 w h) (hn : n < h.levels.length) (hi : i < h.levels[n].blocks.length) (hk : k < h.levels[n].blocks[i].rows.length) :
    ∃ bl ol bb ob g, h.la = some ⟨bl, ol, none⟩ ∧ h.levels[n].ba = some ⟨bb, ob, none⟩ ∧ h.levels[n].blocks[i].ra = some ⟨g, 0, none⟩ ∧ bl ≠ g ∧ bb ≠ g ∧ n < h.ln ∧ i < h.levels[n].bn ∧ k < h.levels[n].blocks[i].rn ∧ g < w.heap.size ∧ w0.heap.size ≤ g ∧
      ∀ x, Below w.heap.size w x → x.cell? ⟨bl, ol + n * 8 + 2, none⟩ = some (.slice h.levels[n].ba h.levels[n].bn h.levels[n].bc) ∧ x.cell? ⟨bb, ob + i * 3 + 1, none⟩ = some (.slice h.levels[n].blocks[i].ra h.levels[n].blocks[i].rn h.levels[n].blocks[i].rc) ∧
        (∃ A, x.heap[g]? = some (.cells A 54 (0, 0))) ∧ x.cell? ⟨g, k * 8 + 6, none⟩ = some (.slice h.levels[n].blocks[i].rows[k].ma h.levels[n].blocks[i].rows[k].mn h.levels[n].blocks[i].rows[k].mc) ∧ x.frozen? ⟨g, k * 8 + 6, none⟩ = false := by
  have hI := hN.in
  have hL := hN.levs _ (List.getElem_mem hn)
  have hB := hL.bk _ (List.getElem_mem hi)
  have hLI := hI.lev _ (List.getElem_mem hn)
  have h1 := hI.levels.1
  have h2 := hLI.blocks.1
  have h3 := (hLI.blk _ (List.getElem_mem hi)).1.1
  obtain ⟨bl, ol, e1, _⟩ := lev_at hI.levels n (by omega) hn
  obtain ⟨bb, ob, e2, _⟩ := blk_at hLI.blocks i (by omega) hi
  obtain ⟨g, e3, ⟨A, hA⟩, _⟩ := hB.cell hk
  obtain ⟨A1, hA1⟩ := own_type hN.lv (r := bl) (by rw [e1]; rfl)
  obtain ⟨A2, hA2⟩ := own_type hL.bl (r := bb) (by rw [e2]; rfl)
  have hat := hB.at (g := g) (by unfold rowsAt; rw [e3]; rfl)
  refine ⟨bl, ol, bb, ob, g, e1, e2, e3, type_ne hA1 hA (by decide), type_ne hA2 hA (by decide), by omega, by omega, by omega, hat.2, hat.1, fun x hb => ?_⟩
  obtain ⟨bl', ol', e1', _, _, q2, _⟩ := lev_at (hI.below hb).levels n (by omega) hn
  obtain ⟨bb', ob', e2', _, q1, _⟩ := blk_at (hLI.below hb).blocks i (by omega) hi
  obtain ⟨g', e3', hA', c1, c2⟩ := (hB.down hb).cell hk
  rw [e1] at e1'
  rw [e2] at e2'
  rw [e3] at e3'
  simp only [Option.some.injEq, Addr.mk.injEq, and_true] at e1' e2' e3'
  obtain ⟨rfl, rfl⟩ := e1'
  obtain ⟨rfl, rfl⟩ := e2'
  subst e3'
  exact ⟨q2, q1, hA', c1, c2⟩
theorem mH_at {h h' : HallR} (e : mH [] h' = mH [] h) {n i k : Nat} (hn : n < h.levels.length) (hi : i < h.levels[n].blocks.length) (hk : k < h.levels[n].blocks[i].rows.length) :
    ∃ (hn' : n < h'.levels.length) (hi' : i < h'.levels[n].blocks.length), k < h'.levels[n].blocks[i].rows.length := by
  have e1 : h'.levels.map (mL []) = h.levels.map (mL []) := congrArg HallR.levels e
  have l1 : h'.levels.length = h.levels.length := by simpa using congrArg List.length e1
  have hn' : n < h'.levels.length := by omega
  have e2 : mL [] h'.levels[n] = mL [] h.levels[n] := by
    have := congrArg (fun l => l[n]?) e1
    simpa [hn, hn'] using this
  have e3 : h'.levels[n].blocks.map (mB []) = h.levels[n].blocks.map (mB []) := congrArg LevR.blocks e2
  have l2 : h'.levels[n].blocks.length = h.levels[n].blocks.length := by simpa using congrArg List.length e3
  have hi' : i < h'.levels[n].blocks.length := by omega
  have e4 : mB [] h'.levels[n].blocks[i] = mB [] h.levels[n].blocks[i] := by
    have := congrArg (fun l => l[i]?) e3
    simpa [hi, hi'] using this
  have e5 : h'.levels[n].blocks[i].rows.map (mR []) = h.levels[n].blocks[i].rows.map (mR []) := congrArg BlkR.rows e4
  have l3 : h'.levels[n].blocks[i].rows.length = h.levels[n].blocks[i].rows.length := by simpa using congrArg List.length e5
  exact ⟨hn', hi', by omega⟩
theorem info_mark : (Try.prog.info? 68).map (fun i => (i.zero, i.size, i.bytes)) = some (some (.agg #[.int .i64 0, .int .i64 0, .int .i64 0]), 3, 24) := by kernel_rfl
theorem PlcIn.setW {w : World} {g : Nat} {p : PlaceR} (h : PlcIn w g p) (x : Int) : PlcIn (w.setCell ⟨g, 8, none⟩ (.int .i64 x)) g { p with wth := x } := by
  unfold PlcIn at *
  simp [World.setCell, Array.getElem?_modify, h]
theorem wth_bd {P : List PlaceR} (hc : CompAt 0 P) (hl : P.length ≤ 4000) {i : Nat} (hi : i < P.length) : -1 ≤ P[i].wth ∧ P[i].wth ≤ 4000 := by
  by_cases h2 : P[i].kind = 2
  · obtain ⟨j, hj, e, _⟩ := hc.bes i hi h2
    omega
  by_cases h1 : P[i].kind = 1
  · rcases hc.whl i hi h1 with ⟨e, _⟩ | ⟨j, hj, e, _⟩ <;> omega
  · have := hc.oth i hi h2 h1
    omega
theorem marks_kinds {r : RowR} (h : marksS r = 0) : ∀ m ∈ r.marks, m.kind ≠ 0 := by
  unfold marksS at h
  split at h
  · cases h
  rename_i h1
  intro m hm e
  apply h1
  rw [List.any_eq_true]
  exact ⟨m, hm, by simp [e]⟩
theorem no_mark {r : RowR} {s : Int} (h : marksS r = 0) (hk : (markS r.marks s).kind = 0) : ∀ m ∈ r.marks, m.seat ≠ s := by
  intro m hm e
  unfold markS at hk
  cases hf : r.marks.find? fun m => decide (m.seat = s) with
  | none =>
    rw [List.find?_eq_none] at hf
    exact hf m hm (by simpa using e)
  | some m2 =>
    rw [hf] at hk
    exact marks_kinds h m2 (List.mem_of_find?_eq_some hf) hk
theorem row_marks {h : HallR} (hs : singleS h = []) {n i k : Nat} (hn : n < h.levels.length) (hi : i < h.levels[n].blocks.length) (hk : k < h.levels[n].blocks[i].rows.length) : marksS h.levels[n].blocks[i].rows[k] = 0 := by
  unfold singleS at hs
  have h1 := flat_nil hs (zip_get hn)
  dsimp only at h1
  have h2 := flat_nil (List.append_eq_nil_iff.1 (List.append_eq_nil_iff.1 h1).1).2 (zip_get hi)
  dsimp only at h2
  exact (rowFault_nil (flat_nil (List.append_eq_nil_iff.1 h2).2 (zip_get hk))).2
theorem zip_at {α : Type} {xs : List α} {x : α} {i : Nat} (h : (x, i) ∈ xs.zipIdx) : ∃ hi : i < xs.length, x = xs[i] := by
  obtain ⟨j, hj, e⟩ := List.mem_iff_getElem.1 h
  simp only [List.length_zipIdx] at hj
  simp only [List.getElem_zipIdx, Nat.zero_add, Prod.mk.injEq] at e
  obtain ⟨e1, rfl⟩ := e
  exact ⟨hj, e1.symm⟩
theorem erase_get {P : List PlaceR} {t i : Nat} (ht : t < P.length) (hi : i < ((P.eraseIdx t).map (decP t)).length) : ∃ hk : (if t ≤ i then i + 1 else i) < P.length, ((P.eraseIdx t).map (decP t))[i] = decP t P[if t ≤ i then i + 1 else i] := by
  have hl : i < P.length - 1 := by
    rw [List.length_map, List.length_eraseIdx, if_pos ht] at hi
    exact hi
  refine ⟨by split <;> omega, ?_⟩
  rw [List.getElem_map, List.getElem_eraseIdx]
  by_cases h : t ≤ i
  · simp only [h, if_true]
    rw [dif_neg (by omega)]
  · simp only [h, if_false]
    rw [dif_pos (by omega)]

set_option maxRecDepth 100000 in
set_option maxHeartbeats 64000000 in
theorem gaps_law (w : World) (h : HallR) (raw : Nat) (hg : HallGot w h) (hraw : raw < 65536) :
    Calls Try.prog 8 #[.agg #[.string (bs h.name), .int .i64 h.stage.x, .int .i64 h.stage.y, .slice h.la h.ln h.lc], .int .u16 raw] w fun e w' => e = .returned (.bool true) ∧ Below w.heap.size w w' := by
  have HG := Lib.hid hg
  clear hg
  refine enter_fr (N := 154) [.agg #[.string (bs h.name), .int .i64 h.stage.x, .int .i64 h.stage.y, .slice h.la h.ln h.lc], .int .u16 raw] (Try.func8) rfl Try.ntmps8 (by rfl) (fun a hF => ?_);replace hF := hF.kp [0, 1] rfl;refine wp_seq_k (fun K hK => ?_);refine region_seq (l := [0, 1]) (by kernel_rfl) ?_;refine seq_one ?_;refine ze1 0 rfl rfl rfl hF rfl rfl ?_;clear hF;refine fun a hF => ?_;refine seq_ck [1] [] hF fun C hC => ?_;clear hF;refine za rfl rfl rfl ?_;refine hC _ (fun a hF => ?_);clear hC C;refine seq_end ?_;replace hF := hF.kp [1, 2] rfl;refine hK _ _ ?_;clear hK;(try clear K)
  have HX : Hid (HallIn (w.alloc (.cells #[.string (bs h.name), .int .i64 h.stage.x, .int .i64 h.stage.y, .slice h.la h.ln h.lc] 26)) w.heap.size h) := World.alloc_heap_new w _
  have HB1 : Hid (Below w.heap.size w (w.alloc (.cells #[.string (bs h.name), .int .i64 h.stage.x, .int .i64 h.stage.y, .slice h.la h.ln h.lc] 26))) := Joins.below_alloc1 w _
  generalize w.alloc (.cells #[.string (bs h.name), .int .i64 h.stage.x, .int .i64 h.stage.y, .slice h.la h.ln h.lc] 26) = w1 at *
  obtain ⟨gh, hgh⟩ : ∃ g, g = w.heap.size := ⟨_, rfl⟩
  rw [← hgh] at hF HX
  clear hgh
  refine wp_seq_k (fun K hK => ?_);refine region_seq (l := [0, 1]) (by kernel_rfl) ?_;refine seq_one ?_;refine op_call [] rfl rfl hF rfl (by kernel_rfl) trivial (fun K hK => ?_);clear hF
  refine (head_any w1).mono ?_
  rintro e w2 ⟨rfl, hb2⟩
  have HB2 : Hid (Below w.heap.size w w2) := HB1.out.trans (hb2.mono HB1.out.size)
  have HX2 := Lib.hid (HX.out.down hb2)
  clear HX HB1 hb2
  refine hK _ _ (fun a hF => ?_);clear hK K;refine seq_ck [1] [] hF fun C hC => ?_;clear hF;refine za rfl rfl rfl ?_;refine hC _ (fun a hF => ?_);clear hC C;refine seq_end ?_;replace hF := hF.kp [1, 2, 5] rfl;refine hK _ _ ?_;clear hK;(try clear K)
  obtain ⟨c0, c1, c2, c3⟩ := HX2.out.cells
  refine wp_seq_k (fun K hK => ?_);refine wp_seq_k (fun K hK => ?_);refine region_sk [0] [1, 2] hF fun C hC => ?_;clear hF;refine zs1 2 rfl rfl ?_;refine hC _ (fun a hF => ?_);clear hC C;refine seq_one ?_;refine op_call [_] rfl rfl hF rfl (by kernel_rfl) ⟨rfl, trivial⟩ (fun K hK => ?_);clear hF
  refine (few_any w2 h (HG.out.hin.below HB2.out) HG.out.reach).mono ?_
  rintro e w3 ⟨b, rfl, hfew, hb3⟩
  have HB3 : Hid (Below w.heap.size w w3) := HB2.out.trans (hb3.mono HB2.out.size)
  have HX3 := Lib.hid (HX2.out.down hb3)
  have HFW := Lib.hid hfew
  clear c0 c1 c2 c3 HX2 HB2 hb3 hfew
  cases b
  · refine hK _ _ (fun a hF => ?_);clear hK K;refine seq_ck [2] [] hF fun C hC => ?_;clear hF;refine zs1 20 rfl rfl ?_;refine hC _ (fun a hF => ?_);clear hC C;refine seq_end ?_;replace hF := hF.kp [1, 2, 5, 21] rfl;refine hK _ _ ?_;clear hK;(try clear K)
    refine cond_yes hF rfl ?_
    refine wp_seq_k (fun K hK => ?_);refine region_sk [0, 1] [] hF fun C hC => ?_;clear hF;refine zm rfl rfl rfl ?_;refine za rfl rfl rfl ?_;refine hC _ (fun a hF => ?_);clear hC C;refine seq_end ?_;replace hF := hF.kp [4] rfl;refine hK _ _ ?_;clear hK;(try clear K);refine wp_ret ?_;(try simp only [then_ret, block_ret, goto_ret]);refine ret_fr (fn := Try.f8) (rs := [.tmp 4]) rfl [_] hF ⟨rfl, trivial⟩ ?_
    exact ⟨rfl, HB3.out⟩
  have HSM := Lib.hid (HFW.out rfl).sm
  clear HFW
  refine hK _ _ (fun a hF => ?_);clear hK K;refine seq_ck [2] [] hF fun C hC => ?_;clear hF;refine zs1 20 rfl rfl ?_;refine hC _ (fun a hF => ?_);clear hC C;refine seq_end ?_;replace hF := hF.kp [1, 2, 5, 21] rfl;refine hK _ _ ?_;clear hK;(try clear K)
  refine cond_no hF rfl ?_
  refine wp_skip ?_
  refine hK _ _ ?_;clear hK;(try clear K)
  obtain ⟨c0, c1, c2, c3⟩ := HX3.out.cells
  refine wp_seq_k (fun K hK => ?_);refine region_sk [0] [1, 2, 3, 4, 5, 6] hF fun C hC => ?_;clear hF;refine zs1 2 rfl rfl ?_;refine hC _ (fun a hF => ?_);clear hC C;refine seq_one ?_;refine op_call [_] rfl rfl hF rfl (by kernel_rfl) ⟨rfl, trivial⟩ (fun K hK => ?_);clear hF
  refine (build_any w3 h (HG.out.hin.below HB3.out) HSM.out HG.out.ac).mono ?_
  rintro e w4 ⟨⟨la, n0, c, fa, m, d, rfl, hp, hpf⟩, hb4⟩
  have HB4 : Hid (Below w.heap.size w w4) := HB3.out.trans (hb4.mono HB3.out.size)
  have HX4 := Lib.hid (HX3.out.down hb4)
  have HP := Lib.hid hp
  have hn4 : (buildS h).1.length ≤ 4000 := build_len
  clear c0 c1 c2 c3 HX3 HB3 hb4 hp
  obtain rfl : (buildS h).1.length = n0 := HP.out.1
  have hnf : (buildS h).2.length = m := hpf.1
  clear hpf
  refine hK _ _ (fun a hF => ?_);clear hK K;refine seq_ck [2, 3, 4, 5, 6] [] hF fun C hC => ?_;clear hF;refine zm rfl rfl rfl ?_;refine zs1 23 rfl rfl ?_;refine zs1 23 rfl rfl ?_;refine za rfl rfl rfl ?_;refine za rfl rfl rfl ?_;refine hC _ (fun a hF => ?_);clear hC C;refine seq_end ?_;replace hF := hF.kp [1, 2, 5, 6, 7] rfl;refine hK _ _ ?_;clear hK;(try clear K)
  by_cases hf : faultsS h = []
  rotate_left
  · have h2 : 0 < m := by
      rw [← hnf]
      unfold buildS
      rw [if_neg hf]
      exact List.length_pos_iff.2 hf
    have h2i : (0 : Int) < (m : Nat) := by omega
    clear HP hn4 hnf hf
    refine wp_seq_k (fun K hK => ?_);refine wp_seq_k (fun K hK => ?_);refine region_sk [0, 1, 2, 3, 4, 5, 6, 7] [] hF fun C hC => ?_;clear hF;refine zm rfl rfl rfl ?_;refine zs1 28 rfl rfl ?_;refine zs1 29 rfl rfl ?_;refine zm rfl rfl rfl ?_;refine zx rfl ?_;refine zx rfl ?_;refine zx rfl ?_;refine zs2 31 34 rfl rfl rfl ?_;refine hC _ (fun a hF => ?_);clear hC C;refine seq_end ?_;replace hF := hF.kp [1, 2, 5, 6, 35] rfl;refine hK _ _ ?_;clear hK;(try clear K)
    refine cond_yes hF rfl ?_
    refine wp_seq_k (fun K hK => ?_);refine region_sk [0, 1] [] hF fun C hC => ?_;clear hF;refine zm rfl rfl rfl ?_;refine za rfl rfl rfl ?_;refine hC _ (fun a hF => ?_);clear hC C;refine seq_end ?_;replace hF := hF.kp [4] rfl;refine hK _ _ ?_;clear hK;(try clear K);refine wp_ret ?_;(try simp only [then_ret, block_ret, goto_ret]);refine ret_fr (fn := Try.f8) (rs := [.tmp 4]) rfl [_] hF ⟨rfl, trivial⟩ ?_
    exact ⟨rfl, HB4.out⟩
  have h2 : m = 0 := by
    rw [← hnf]
    unfold buildS
    rw [if_pos hf]
    rfl
  have h1 : (buildS h).1 = placesS h := by unfold buildS; rw [if_pos hf]
  rw [h1] at HP hF hn4
  subst h2
  have HF0 := Lib.hid hf
  have HSN := Lib.hid (single_of hf).1
  clear h1 hnf hf
  obtain ⟨P, hPe⟩ : ∃ P, P = placesS h := ⟨_, rfl⟩
  rw [← hPe] at HP hF hn4
  have HPE := Lib.hid hPe
  clear hPe
  by_cases hz : P.length = 0
  · have hz1 : (((P.length : Nat) : Int) == 0) = true := by simp [hz]
    have hz2 : (P.length == 0) = true := by simp [hz]
    clear hz
    refine wp_seq_k (fun K hK => ?_);refine wp_seq_k (fun K hK => ?_);refine region_sk [0, 1, 2, 3, 4, 5, 6, 7] [] hF fun C hC => ?_;clear hF;refine zm rfl rfl rfl ?_;refine zs1 28 rfl rfl ?_;refine zs1 29 rfl rfl ?_;refine zm rfl rfl rfl ?_;refine zm rfl rfl rfl ?_;refine zs1 32 rfl rfl ?_;refine zs1 33 rfl rfl ?_;refine zs2 31 34 rfl rfl rfl ?_;refine hC _ (fun a hF => ?_);clear hC C;refine seq_end ?_;replace hF := hF.kp [1, 2, 5, 6, 35] rfl;refine hK _ _ ?_;clear hK;(try clear K)
    refine cond_yes hF rfl ?_
    refine wp_seq_k (fun K hK => ?_);refine region_sk [0, 1] [] hF fun C hC => ?_;clear hF;refine zm rfl rfl rfl ?_;refine za rfl rfl rfl ?_;refine hC _ (fun a hF => ?_);clear hC C;refine seq_end ?_;replace hF := hF.kp [4] rfl;refine hK _ _ ?_;clear hK;(try clear K);refine wp_ret ?_;(try simp only [then_ret, block_ret, goto_ret]);refine ret_fr (fn := Try.f8) (rs := [.tmp 4]) rfl [_] hF ⟨rfl, trivial⟩ ?_
    exact ⟨rfl, HB4.out⟩
  have hz1 : (((P.length : Nat) : Int) == 0) = false := by simp [hz]
  have hz2 : (P.length == 0) = false := by simp [hz]
  refine wp_seq_k (fun K hK => ?_);refine wp_seq_k (fun K hK => ?_);refine region_sk [0, 1, 2, 3, 4, 5, 6, 7] [] hF fun C hC => ?_;clear hF;refine zm rfl rfl rfl ?_;refine zs1 28 rfl rfl ?_;refine zs1 29 rfl rfl ?_;refine zm rfl rfl rfl ?_;refine zm rfl rfl rfl ?_;refine zs1 32 rfl rfl ?_;refine zs1 33 rfl rfl ?_;refine zs2 31 34 rfl rfl rfl ?_;refine hC _ (fun a hF => ?_);clear hC C;refine seq_end ?_;replace hF := hF.kp [1, 2, 5, 6, 35] rfl;refine hK _ _ ?_;clear hK;(try clear K)
  refine cond_no hF rfl ?_
  refine wp_skip ?_
  refine hK _ _ ?_;clear hK;(try clear K)
  clear hz1 hz2
  replace hF := hF.kp [1, 2, 5, 6] rfl
  have hk : (raw % P.length : Nat) < P.length := Nat.mod_lt _ (by omega)
  have hcv : IntKind.i64.wrap ((raw : Nat) : Int) = (raw : Int) := wrap_in (by omega) (by omega)
  have hke : ((raw : Nat) : Int).tmod ((P.length : Nat) : Int) = ((raw % P.length : Nat) : Int) := (Int.ofNat_tmod _ _).symm
  obtain ⟨t, hkk⟩ : ∃ k, k = raw % P.length := ⟨_, rfl⟩
  rw [← hkk] at hk hke
  clear hkk
  have hlz : ((P.length : Nat) : Int) ≠ 0 := by omega
  refine wp_seq_k (fun K hK => ?_);refine region_sk [0, 1, 2, 3, 4, 5] [] hF fun C hC => ?_;clear hF;refine zm rfl rfl rfl ?_;refine zs1 37 rfl rfl ?_;refine zm rfl rfl rfl ?_;refine zs1 39 rfl rfl ?_;refine zs2 38 40 rfl rfl rfl ?_;refine za rfl rfl rfl ?_;refine hC _ (fun a hF => ?_);clear hC C;refine seq_end ?_;replace hF := hF.kp [2, 5, 6, 8] rfl;refine hK _ _ ?_;clear hK;(try clear K)
  clear hke hlz hcv hz
  replace hF := hF.kp [2, 5, 6, 8] rfl
  have HSA : Hid (0 ≤ P[t].row → ∃ n i k r, SeatAt h t P[t] n i k r) := fun hr => by
    have h1 := seat_at (noSingle HSN.out) (t := t) (by rw [← HPE.out]; exact hk)
    have h2 : (placesS h)[t]'(by rw [← HPE.out]; exact hk) = P[t] := by
      congr 1
      exact HPE.out.symm
    rw [h2] at h1
    exact h1 hr
  obtain ⟨bp, op, hla, d0, d1, d2, d3, d4, d5, d6, d7, d8⟩ := place_at HP.out t hk hk
  subst hla
  have hti : (t : Int) < (P.length : Nat) := by omega
  obtain ⟨p, hp⟩ : ∃ p, p = P[t] := ⟨_, rfl⟩
  have HPP := Lib.hid hp
  rw [← hp] at d0 d1 d2 d3 d4 d5 d6 d7 d8 HSA
  clear hp
  refine wp_seq_k (fun K hK => ?_);refine region_sk [0, 1, 2, 3] [4, 5] hF fun C hC => ?_;clear hF;refine zm rfl rfl rfl ?_;refine zm rfl rfl rfl ?_;refine zs2 42 43 rfl rfl rfl ?_;refine zs1 44 rfl rfl ?_;refine hC _ (fun a hF => ?_);clear hC C;refine seq_one ?_;refine ze0 rfl rfl rfl hF rfl ?_;clear hF;refine fun a hF => ?_
  have hs0 : (w4.alloc (.cells #[.int .i64 0, .int .i64 0, .int .i64 0, .int .i64 0, .int .i64 0, .int .i64 0, .int .i64 0, .int .i64 0, .int .i64 0] 35)).heap[w4.heap.size]? = some (.cells #[.int .i64 0, .int .i64 0, .int .i64 0, .int .i64 0, .int .i64 0, .int .i64 0, .int .i64 0, .int .i64 0, .int .i64 0] 35 (0, 0)) := World.alloc_heap_new _ _
  have hb1 := Joins.below_alloc1 w4 (.cells #[.int .i64 0, .int .i64 0, .int .i64 0, .int .i64 0, .int .i64 0, .int .i64 0, .int .i64 0, .int .i64 0, .int .i64 0] 35)
  generalize w4.alloc (.cells #[.int .i64 0, .int .i64 0, .int .i64 0, .int .i64 0, .int .i64 0, .int .i64 0, .int .i64 0, .int .i64 0, .int .i64 0] 35) = wa at *
  obtain ⟨gp, hgv⟩ : ∃ g, g = w4.heap.size := ⟨_, rfl⟩
  have hgw : w4.heap.size ≤ gp := Nat.le_of_eq hgv.symm
  rw [← hgv] at hF hs0
  clear hgv
  have hSV := run_storeVar_row (P := Try.prog) wa gp 35 35 #[.int .i64 0, .int .i64 0, .int .i64 0, .int .i64 0, .int .i64 0, .int .i64 0, .int .i64 0, .int .i64 0, .int .i64 0] #[.int .i64 p.kind, .int .i64 p.level, .int .i64 p.block, .int .i64 p.row, .int .i64 p.seat, .int .i64 p.x, .int .i64 p.y, .int .i64 p.view, .int .i64 p.wth] hs0 (by kernel_rfl) rfl (by simp [Value.oneCell'])
  have hs2 := setRow_heap wa gp #[.int .i64 0, .int .i64 0, .int .i64 0, .int .i64 0, .int .i64 0, .int .i64 0, .int .i64 0, .int .i64 0, .int .i64 0] #[.int .i64 p.kind, .int .i64 p.level, .int .i64 p.block, .int .i64 p.row, .int .i64 p.seat, .int .i64 p.x, .int .i64 p.y, .int .i64 p.view, .int .i64 p.wth] 35 (0, 0) hs0
  have hb2 : Below w4.heap.size w4 (wa.setRow gp #[.int .i64 p.kind, .int .i64 p.level, .int .i64 p.block, .int .i64 p.row, .int .i64 p.seat, .int .i64 p.x, .int .i64 p.y, .int .i64 p.view, .int .i64 p.wth]) := below_setRow hb1 hgw #[.int .i64 p.kind, .int .i64 p.level, .int .i64 p.block, .int .i64 p.row, .int .i64 p.seat, .int .i64 p.x, .int .i64 p.y, .int .i64 p.view, .int .i64 p.wth]
  have HTW := Lib.hid (And.intro hb2 (And.intro hs2 hgw))
  clear hs0 hb1 hs2 hb2 hgw
  refine seq_one ?_;refine op_storev rfl rfl hF rfl rfl rfl rfl hSV ?_;clear hF;refine fun a hF => ?_
  clear hSV
  refine hK _ _ ?_;clear hK;(try clear K)
  generalize wa.setRow gp #[.int .i64 p.kind, .int .i64 p.level, .int .i64 p.block, .int .i64 p.row, .int .i64 p.seat, .int .i64 p.x, .int .i64 p.y, .int .i64 p.view, .int .i64 p.wth] = w5 at *
  have HPI : Hid (PlcIn w5 gp p) := HTW.out.2.1
  have HX5 := Lib.hid (HX4.out.down HTW.out.1)
  have HB5 : Hid (Below w.heap.size w w5) := HB4.out.trans (HTW.out.1.mono HB4.out.size)
  have HP5 := Lib.hid (HP.out.below HTW.out.1)
  clear HTW HX4 HB4 HP d0 d1 d2 d3 d4 d5 d6 d7 d8
  obtain ⟨q0, q1, q2, q3, q4, q5, q6, q7, q8⟩ := HPI.out.cells
  refine wp_seq_k (fun K hK => ?_);refine wp_seq_k (fun K hK => ?_)
  by_cases hrow : p.row < 0
  · refine region_sk [0, 1, 2] [] hF fun C hC => ?_;clear hF;refine zs1 9 rfl rfl ?_;refine zs1 46 rfl rfl ?_;refine zs1 47 rfl rfl ?_;refine hC _ (fun a hF => ?_);clear hC C;refine seq_end ?_;replace hF := hF.kp [2, 5, 6, 8, 9, 48] rfl;refine hK _ _ ?_;clear hK;(try clear K)
    refine cond_yes hF rfl ?_
    refine wp_seq_k (fun K hK => ?_);refine region_sk [0, 1] [] hF fun C hC => ?_;clear hF;refine zm rfl rfl rfl ?_;refine za rfl rfl rfl ?_;refine hC _ (fun a hF => ?_);clear hC C;refine seq_end ?_;replace hF := hF.kp [4] rfl;refine hK _ _ ?_;clear hK;(try clear K);refine wp_ret ?_;(try simp only [then_ret, block_ret, goto_ret]);refine ret_fr (fn := Try.f8) (rs := [.tmp 4]) rfl [_] hF ⟨rfl, trivial⟩ ?_
    exact ⟨rfl, HB5.out⟩
  refine region_sk [0, 1, 2] [] hF fun C hC => ?_;clear hF;refine zs1 9 rfl rfl ?_;refine zs1 46 rfl rfl ?_;refine zs1 47 rfl rfl ?_;refine hC _ (fun a hF => ?_);clear hC C;refine seq_end ?_;replace hF := hF.kp [2, 5, 6, 8, 9, 48] rfl;refine hK _ _ ?_;clear hK;(try clear K)
  refine cond_no hF rfl ?_
  refine wp_skip ?_
  refine hK _ _ ?_;clear hK;(try clear K)
  obtain ⟨n, i, k, r, hsa⟩ := HSA.out (by omega)
  have HS := Lib.hid hsa
  obtain ⟨hn, hi, hkr, hre⟩ := hsa.hn
  have HMK := Lib.hid (row_marks HSN.out hn hi hkr)
  have HLL : Hid (h.levels.length = h.ln) := HG.out.hin.levels.1
  have HLI : Hid (h.levels[n].In w) := HG.out.hin.lev _ (List.getElem_mem hn)
  have HBI : Hid (h.levels[n].blocks[i].In w) := HLI.out.blk _ (List.getElem_mem hi)
  have HRI : Hid (r.In w) := by
    rw [hre]
    exact HBI.out.2.2 _ (List.getElem_mem hkr)
  have hn1 : n < h.ln := by rw [← HLL.out]; exact hn
  have hi1 : i < h.levels[n].bn := by have := HLI.out.blocks.1; omega
  have hk1 : k < h.levels[n].blocks[i].rn := by have := HBI.out.1.1; omega
  have hni : (n : Int) < (h.ln : Nat) := by omega
  have hii : (i : Int) < (h.levels[n].bn : Nat) := by omega
  have hki : (k : Int) < (h.levels[n].blocks[i].rn : Nat) := by omega
  rw [hsa.lev] at q1
  rw [hsa.blk] at q2
  rw [hsa.row] at q3
  clear hsa HSA hrow
  obtain ⟨c0, c1, c2, c3⟩ := HX5.out.cells
  obtain ⟨bl, ol, hll, _, _, e2, _, _, _, _, _⟩ := lev_at (HG.out.hin.below HB5.out).levels n hn1 hn
  obtain ⟨bb, ob, hbb, _, f1, _⟩ := blk_at (HLI.out.below HB5.out).blocks i hi1 hi
  obtain ⟨br, orr, hbr, _, _, _, _, _, _, g6, _⟩ := row_at (HBI.out.below HB5.out).1 k hk1 hkr
  rw [← hre] at g6 HMK
  have HRE := Lib.hid hre
  clear hre
  rw [hll] at c3
  rw [hbb] at e2
  rw [hbr] at f1
  refine wp_seq_k (fun K hK => ?_);refine region_any (by kernel_rfl) ?_;refine any_chain (fuel := 0) [(0, false), (1, true), (2, false), (3, true), (4, false), (5, false), (6, true), (7, false), (8, true), (9, false), (10, false), (11, true), (12, false), (13, true), (14, false), (15, false), (16, true), (17, false)] [] rfl (by kernel_rfl) (by kernel_rfl) hF (fun _ _ d _ _ h => by cases d <;> exact h) (fun C hC => ?_);clear hF;refine zy1 2 rfl rfl ?_;refine zs1 50 rfl rfl ?_;refine zy1 9 rfl rfl ?_;refine zs1 52 rfl rfl ?_;refine zy2 51 53 rfl rfl rfl ?_;refine zy1 54 rfl rfl ?_;refine zs1 55 rfl rfl ?_;refine zy1 9 rfl rfl ?_;refine zs1 57 rfl rfl ?_;refine zy2 56 58 rfl rfl rfl ?_;refine zy1 59 rfl rfl ?_;refine zs1 60 rfl rfl ?_;refine zy1 9 rfl rfl ?_;refine zs1 62 rfl rfl ?_;refine zy2 61 63 rfl rfl rfl ?_;refine zy1 64 rfl rfl ?_;refine zs1 65 rfl rfl ?_;refine za rfl rfl rfl ?_;refine hC _ (fun a hF => ?_);clear hC C;refine any_end (by kernel_rfl) ?_;replace hF := hF.kp [2, 5, 6, 8, 9, 10] rfl;refine hK _ _ ?_;clear hK;(try clear K)
  clear c0 c1 c2 c3 e2 f1 g6 hll hbb hbr q0 q1 q2 q3 q4 q5 q6 q7 q8
  have HPId : Hid (PlcIn w5.drew gp p) := HPI.out.down (below_d (Below.refl _ _))
  have HXd : Hid (HallIn w5.drew gh h) := HX5.out.down (below_d (Below.refl _ _))
  have HBd : Hid (Below w.heap.size w w5.drew) := below_d HB5.out
  have HPd : Hid (Recs PlaceE w5.drew (some ⟨bp, op, none⟩) P.length P) := HP5.out.below (below_d (Below.refl _ _))
  clear HPI HX5 HB5 HP5
  generalize w5.drew = w6 at *
  obtain ⟨q0, q1, q2, q3, q4, q5, q6, q7, q8⟩ := HPId.out.cells
  have hfm := run_field_mark
  refine wp_seq_k (fun K hK => ?_);refine wp_seq_k (fun K hK => ?_);refine region_sk [0, 1, 2, 3] [4, 5, 6, 7, 8, 9, 10, 11] hF fun C hC => ?_;clear hF;refine zm rfl rfl rfl ?_;refine zs1 67 rfl rfl ?_;refine zs1 9 rfl rfl ?_;refine zs1 69 rfl rfl ?_;refine hC _ (fun a hF => ?_);clear hC C;refine seq_one ?_;refine op_call [_, _] rfl rfl hF rfl (by kernel_rfl) ⟨rfl, rfl, trivial⟩ (fun K hK => ?_);clear hF
  refine (refmark_any w6 ⟨[], 0, 0, 0, 0, 0, r.ma, r.mn, r.mc, r.marks, 0⟩ p.seat ⟨(HRI.out.below HBd.out).marks, HRI.out.mn, HRI.out.ma0, by show (0 : Int) ≤ _; omega, HRI.out.keys⟩).mono ?_
  rintro e w7 ⟨rfl, hb7⟩
  have HPI7 := Lib.hid (HPId.out.down hb7)
  have HX7 := Lib.hid (HXd.out.down hb7)
  have HB7 : Hid (Below w.heap.size w w7) := HBd.out.trans (hb7.mono HBd.out.size)
  have HP7 := Lib.hid (HPd.out.below hb7)
  clear HPId HXd HBd HPd hb7 q0 q1 q2 q3 q4 q5 q6 q7 q8
  have hmkd : markS (⟨[], 0, 0, 0, 0, 0, r.ma, r.mn, r.mc, r.marks, 0⟩ : RowR).marks p.seat = markS r.marks p.seat := rfl
  rw [hmkd]
  clear hmkd
  have HNM : Hid ((markS r.marks p.seat).kind = 0 → ∀ m ∈ r.marks, m.seat ≠ p.seat) := fun hk0 => no_mark HMK.out hk0
  generalize markS r.marks p.seat = mk at *
  by_cases hk0 : mk.kind = 0
  rotate_left
  · have hk2 : (mk.kind != 0) = true := by simp [hk0]
    refine hK _ _ (fun a hF => ?_);clear hK K;refine seq_ck [5, 6, 7, 8, 9, 10, 11] [] hF fun C hC => ?_;clear hF;refine zs1 71 rfl rfl ?_;refine zs1 72 rfl rfl ?_;refine zm rfl rfl rfl ?_;refine zx rfl ?_;refine zx rfl ?_;refine zx rfl ?_;refine zs2 74 77 rfl rfl rfl ?_;refine hC _ (fun a hF => ?_);clear hC C;refine seq_end ?_;replace hF := hF.kp [2, 5, 6, 8, 9, 10, 78] rfl;refine hK _ _ ?_;clear hK;(try clear K)
    refine cond_yes hF rfl ?_
    refine wp_seq_k (fun K hK => ?_);refine region_sk [0, 1] [] hF fun C hC => ?_;clear hF;refine zm rfl rfl rfl ?_;refine za rfl rfl rfl ?_;refine hC _ (fun a hF => ?_);clear hC C;refine seq_end ?_;replace hF := hF.kp [4] rfl;refine hK _ _ ?_;clear hK;(try clear K);refine wp_ret ?_;(try simp only [then_ret, block_ret, goto_ret]);refine ret_fr (fn := Try.f8) (rs := [.tmp 4]) rfl [_] hF ⟨rfl, trivial⟩ ?_
    exact ⟨rfl, HB7.out⟩
  have hk2 : (mk.kind != 0) = false := by simp [hk0]
  by_cases hmn : 60 ≤ r.mn
  · have hmni : (60 : Int) ≤ (r.mn : Nat) := by omega
    refine hK _ _ (fun a hF => ?_);clear hK K;refine seq_ck [5, 6, 7, 8, 9, 10, 11] [] hF fun C hC => ?_;clear hF;refine zs1 71 rfl rfl ?_;refine zs1 72 rfl rfl ?_;refine zm rfl rfl rfl ?_;refine zm rfl rfl rfl ?_;refine zs1 75 rfl rfl ?_;refine zs1 76 rfl rfl ?_;refine zs2 74 77 rfl rfl rfl ?_;refine hC _ (fun a hF => ?_);clear hC C;refine seq_end ?_;replace hF := hF.kp [2, 5, 6, 8, 9, 10, 78] rfl;refine hK _ _ ?_;clear hK;(try clear K)
    refine cond_yes hF rfl ?_
    refine wp_seq_k (fun K hK => ?_);refine region_sk [0, 1] [] hF fun C hC => ?_;clear hF;refine zm rfl rfl rfl ?_;refine za rfl rfl rfl ?_;refine hC _ (fun a hF => ?_);clear hC C;refine seq_end ?_;replace hF := hF.kp [4] rfl;refine hK _ _ ?_;clear hK;(try clear K);refine wp_ret ?_;(try simp only [then_ret, block_ret, goto_ret]);refine ret_fr (fn := Try.f8) (rs := [.tmp 4]) rfl [_] hF ⟨rfl, trivial⟩ ?_
    exact ⟨rfl, HB7.out⟩
  have hmni : ¬ (60 : Int) ≤ (r.mn : Nat) := by omega
  refine hK _ _ (fun a hF => ?_);clear hK K;refine seq_ck [5, 6, 7, 8, 9, 10, 11] [] hF fun C hC => ?_;clear hF;refine zs1 71 rfl rfl ?_;refine zs1 72 rfl rfl ?_;refine zm rfl rfl rfl ?_;refine zm rfl rfl rfl ?_;refine zs1 75 rfl rfl ?_;refine zs1 76 rfl rfl ?_;refine zs2 74 77 rfl rfl rfl ?_;refine hC _ (fun a hF => ?_);clear hC C;refine seq_end ?_;replace hF := hF.kp [2, 5, 6, 8, 9, 10, 78] rfl;refine hK _ _ ?_;clear hK;(try clear K)
  refine cond_no hF rfl ?_
  refine wp_skip ?_
  refine hK _ _ ?_;clear hK;(try clear K)
  have HNO := Lib.hid (HNM.out hk0)
  clear hk0 hk2 hmni HNM hfm
  obtain ⟨c0, c1, c2, c3⟩ := HX7.out.cells
  refine wp_seq_k (fun K hK => ?_);refine region_sk [0] [1, 2, 3] hF fun C hC => ?_;clear hF;refine zs1 2 rfl rfl ?_;refine hC _ (fun a hF => ?_);clear hC C;refine seq_one ?_;refine op_call [_, _, _] rfl rfl hF rfl (by kernel_rfl) ⟨rfl, rfl, rfl, trivial⟩ (fun K hK => ?_);clear hF
  refine (named_any w7 h [] 0 (HG.out.hin.below HB7.out) HSM.out HG.out.nm (Nat.zero_le _)).mono ?_
  rintro e w8 ⟨h', rfl, hN, hE, hnm⟩
  have HN := Lib.hid hN
  have HE := Lib.hid hE
  have HNM : Hid (h'.name = []) := hnm
  have HPI8 := Lib.hid (HPI7.out.down hN.below)
  have HP8 := Lib.hid (HP7.out.below hN.below)
  clear c0 c1 c2 c3 HPI7 HX7 hN hE hnm
  have hbn : (.string ⟨#[]⟩ : Value) = .string (bs h'.name) := by rw [HNM.out]; rfl
  rw [hbn]
  clear hbn
  refine hK _ _ (fun a hF => ?_);clear hK K;refine seq_one ?_;refine ze0 rfl rfl rfl hF rfl ?_;clear hF;refine fun a hF => ?_
  have hs0 : (w8.alloc (.cells #[.string ⟨#[]⟩, .int .i64 0, .int .i64 0, .slice none 0 0] 26)).heap[w8.heap.size]? = some (.cells #[.string ⟨#[]⟩, .int .i64 0, .int .i64 0, .slice none 0 0] 26 (0, 0)) := World.alloc_heap_new _ _
  have hb1 := Joins.below_alloc1 w8 (.cells #[.string ⟨#[]⟩, .int .i64 0, .int .i64 0, .slice none 0 0] 26)
  generalize w8.alloc (.cells #[.string ⟨#[]⟩, .int .i64 0, .int .i64 0, .slice none 0 0] 26) = wa at *
  obtain ⟨go, hgv⟩ : ∃ g, g = w8.heap.size := ⟨_, rfl⟩
  have hgw : w8.heap.size ≤ go := Nat.le_of_eq hgv.symm
  rw [← hgv] at hF hs0
  clear hgv
  have hSV := run_storeVar_row (P := Try.prog) wa go 26 26 #[.string ⟨#[]⟩, .int .i64 0, .int .i64 0, .slice none 0 0] #[.string (bs h'.name), .int .i64 h'.stage.x, .int .i64 h'.stage.y, .slice h'.la h'.ln h'.lc] hs0 (by kernel_rfl) rfl (by simp [Value.oneCell'])
  have hs2 := setRow_heap wa go #[.string ⟨#[]⟩, .int .i64 0, .int .i64 0, .slice none 0 0] #[.string (bs h'.name), .int .i64 h'.stage.x, .int .i64 h'.stage.y, .slice h'.la h'.ln h'.lc] 26 (0, 0) hs0
  have hb2 : Below w8.heap.size w8 (wa.setRow go #[.string (bs h'.name), .int .i64 h'.stage.x, .int .i64 h'.stage.y, .slice h'.la h'.ln h'.lc]) := below_setRow hb1 hgw #[.string (bs h'.name), .int .i64 h'.stage.x, .int .i64 h'.stage.y, .slice h'.la h'.ln h'.lc]
  have HTW := Lib.hid (And.intro hb2 (And.intro hs2 hgw))
  clear hs0 hb1 hs2 hb2 hgw
  refine seq_one ?_;refine op_storev rfl rfl hF rfl rfl rfl rfl hSV ?_;clear hF;refine fun a hF => ?_
  clear hSV
  refine hK _ _ ?_;clear hK;(try clear K)
  generalize wa.setRow go #[.string (bs h'.name), .int .i64 h'.stage.x, .int .i64 h'.stage.y, .slice h'.la h'.ln h'.lc] = w9 at *
  have HGO : Hid (HallIn w9 go h') := HTW.out.2.1
  have HPI9 := Lib.hid (HPI8.out.down HTW.out.1)
  have HB89 : Hid (Below w8.heap.size w8 w9) := HTW.out.1
  clear HTW HPI8 HP8
  obtain ⟨hn', hi', hk'⟩ := mH_at HE.out hn hi hkr
  obtain ⟨bl, ol, bb2, ob2, g, la1, ba1, ra1, ne1, ne2, ln1, bn1, rn1, gl1, gl2, hce⟩ := gap_cells HN.out hn' hi' hk'
  have HCE := Lib.hid hce
  clear hce
  have HRL : Hid (r.marks.length = r.mn) := HRI.out.marks.1
  have HB8d : Hid (Below w8.heap.size w8 w9.drew) := below_d HB89.out
  obtain ⟨B0, hB0⟩ : ∃ B, B = w9.drew.heap.size := ⟨_, rfl⟩
  have HBZ : Hid (B0 ≤ w9.drew.heap.size) := Nat.le_of_eq hB0
  have HBZ8 : Hid (w8.heap.size ≤ B0) := by
    rw [hB0]
    exact HB8d.out.size
  have HGB : Hid (g < B0) := by
    have := HBZ8.out
    show g < B0
    omega
  have HB0 := Lib.hid hB0
  clear hB0
  have HAS : Hid (AS MarkE 68 w9.drew B0 ⟨1, p.seat, 0⟩ w9.drew none none) := AS.start B0 _ HBZ.out
  have HRC : Hid (∀ w', Below B0 w9.drew w' → Rcs MarkE w' (.slice r.ma r.mn r.mc) r.marks) := fun w' hb => by
    have h1 := HB7.out.trans (((HN.out.below.trans (HB8d.out.mono HN.out.below.size)).trans (hb.mono (Nat.le_trans HN.out.below.size HBZ8.out))).mono HB7.out.size)
    have h := (HRI.out.below h1).marks
    rw [← HRL.out] at h ⊢
    exact ⟨_, _, rfl, h, HRI.out.ma0⟩
  have HST : Hid (∀ w', Below B0 w9.drew w' → True ∧ w'.cell? ⟨go, 3, none⟩ = some (.slice (some ⟨bl, ol, none⟩) h'.ln h'.lc) ∧ w'.cell? ⟨gp, 1, none⟩ = some (.int .i64 (n : Int)) ∧ w'.cell? ⟨gp, 2, none⟩ = some (.int .i64 (i : Int)) ∧ w'.cell? ⟨gp, 3, none⟩ = some (.int .i64 (k : Int)) ∧ w'.cell? ⟨gp, 4, none⟩ = some (.int .i64 p.seat) ∧ w'.cell? ⟨bl, ol + n * 8 + 2, none⟩ = some (.slice (some ⟨bb2, ob2, none⟩) h'.levels[n].bn h'.levels[n].bc) ∧ w'.cell? ⟨bb2, ob2 + i * 3 + 1, none⟩ = some (.slice (some ⟨g, 0, none⟩) h'.levels[n].blocks[i].rn h'.levels[n].blocks[i].rc)) := fun w' hb => by
    have hb2 : Below w9.drew.heap.size w9.drew w' := by rw [← HB0.out]; exact hb
    obtain ⟨_, _, _, q3⟩ := (HGO.out.down ((below_d (Below.refl _ _)).trans hb2)).cells
    obtain ⟨_, m1, m2, m3, m4, _, _, _, _⟩ := (HPI9.out.down ((below_d (Below.refl _ _)).trans hb2)).cells
    obtain ⟨y2, y1, _, _, _⟩ := HCE.out w' (HB8d.out.trans (hb.mono HBZ8.out))
    rw [la1] at q3
    rw [HS.out.lev] at m1
    rw [HS.out.blk] at m2
    rw [HS.out.row] at m3
    rw [ba1] at y2
    rw [ra1] at y1
    exact ⟨trivial, q3, m1, m2, m3, m4, y2, y1⟩
  have HSTL : Hid (∀ (x : World) (v : Value), Below B0 w9.drew x → (fun w' => True ∧ w'.cell? ⟨go, 3, none⟩ = some (.slice (some ⟨bl, ol, none⟩) h'.ln h'.lc) ∧ w'.cell? ⟨gp, 1, none⟩ = some (.int .i64 (n : Int)) ∧ w'.cell? ⟨gp, 2, none⟩ = some (.int .i64 (i : Int)) ∧ w'.cell? ⟨gp, 3, none⟩ = some (.int .i64 (k : Int)) ∧ w'.cell? ⟨gp, 4, none⟩ = some (.int .i64 p.seat) ∧ w'.cell? ⟨bl, ol + n * 8 + 2, none⟩ = some (.slice (some ⟨bb2, ob2, none⟩) h'.levels[n].bn h'.levels[n].bc) ∧ w'.cell? ⟨bb2, ob2 + i * 3 + 1, none⟩ = some (.slice (some ⟨g, 0, none⟩) h'.levels[n].blocks[i].rn h'.levels[n].blocks[i].rc)) (x.setCell ⟨g, k * 8 + 6, none⟩ v)) := fun x v hb => by
    obtain ⟨_, h3, h4, h5, h6, h7, h8, h9⟩ := HST.out x hb
    have hb2 : Below w9.drew.heap.size w9.drew x := by rw [← HB0.out]; exact hb
    obtain ⟨_, _, ⟨A, hA⟩, _, _⟩ := HCE.out x (HB8d.out.trans (hb.mono HBZ8.out))
    have n1 : go ≠ g := type_ne (HGO.out.down ((below_d (Below.refl _ _)).trans hb2)) hA (by decide)
    have n2 : gp ≠ g := type_ne (HPI9.out.down ((below_d (Below.refl _ _)).trans hb2)) hA (by decide)
    exact ⟨trivial, (cell_other n1).trans h3, (cell_other n2).trans h4, (cell_other n2).trans h5, (cell_other n2).trans h6, (cell_other n2).trans h7, (cell_other ne1).trans h8, (cell_other ne2).trans h9⟩
  have hmn8 : r.mn < 60 := by omega
  have HSEAT : Hid (1 ≤ p.seat ∧ p.seat ≤ 10000) := by
    have h1 := (noSingle HSN.out).rows _ (List.getElem_mem hn) _ (List.getElem_mem hi) _ (List.getElem_mem hkr)
    rw [← HRE.out] at h1
    have := HS.out.lo
    have := HS.out.hi
    have := h1.1.fr
    have := h1.1.to
    show 1 ≤ p.seat ∧ p.seat ≤ 10000
    omega
  have HFIN : Hid (∀ (x : World) (dm : Option Addr) (dk : Nat), Below B0 w9.drew x → Recs MarkE (x.setCell ⟨g, k * 8 + 6, none⟩ (.slice dm (r.mn + 1) dk)) dm (r.mn + 1) (r.marks ++ [⟨1, p.seat, 0⟩]) → Hid (Below w.heap.size w (x.setCell ⟨g, k * 8 + 6, none⟩ (.slice dm (r.mn + 1) dk)) ∧ HallIn (x.setCell ⟨g, k * 8 + 6, none⟩ (.slice dm (r.mn + 1) dk)) go h' ∧ Recs PlaceE (x.setCell ⟨g, k * 8 + 6, none⟩ (.slice dm (r.mn + 1) dk)) (some ⟨bp, op, none⟩) P.length P ∧ (putP n (putL i (putB k { h'.levels[n].blocks[i].rows[k] with ma := dm, mn := r.mn + 1, mc := dk, marks := r.marks ++ [⟨1, p.seat, 0⟩] } h'.levels[n].blocks[i]) h'.levels[n]) h').In (x.setCell ⟨g, k * 8 + 6, none⟩ (.slice dm (r.mn + 1) dk)) ∧ (putP n (putL i (putB k { h'.levels[n].blocks[i].rows[k] with ma := dm, mn := r.mn + 1, mc := dk, marks := r.marks ++ [⟨1, p.seat, 0⟩] } h'.levels[n].blocks[i]) h'.levels[n]) h').Sm ∧ (∀ l ∈ (putP n (putL i (putB k { h'.levels[n].blocks[i].rows[k] with ma := dm, mn := r.mn + 1, mc := dk, marks := r.marks ++ [⟨1, p.seat, 0⟩] } h'.levels[n].blocks[i]) h'.levels[n]) h').levels, l.an ≤ l.ac) ∧ mH [] (putP n (putL i (putB k { h'.levels[n].blocks[i].rows[k] with ma := dm, mn := r.mn + 1, mc := dk, marks := r.marks ++ [⟨1, p.seat, 0⟩] } h'.levels[n].blocks[i]) h'.levels[n]) h') = mH [] (gapH n i k p.seat h))) := fun x dm dk hb hrec => by
    have hb8 : Below w8.heap.size w8 x := HB8d.out.trans (hb.mono HBZ8.out)
    have hb2 : Below w9.drew.heap.size w9.drew x := by rw [← HB0.out]; exact hb
    have hr' := ((HN.out.levs _ (List.getElem_mem hn')).bk _ (List.getElem_mem hi')).rows _ (List.getElem_mem hk')
    have hma0 : dm = none → dk = 0 := fun e => by
      obtain ⟨b, o, e2, _⟩ := hrec.2 0 (by omega)
      rw [e] at e2
      exact absurd e2 (by simp)
    have hkeys : ∀ m ∈ r.marks ++ [(⟨1, p.seat, 0⟩ : MarkR)], (Lit.int .i64 m.seat).wf = true ∧ (Lit.int .i64 m.wth).wf = true := fun m hm => by
      rcases List.mem_append.1 hm with hm | hm
      · exact HRI.out.keys m hm
      · rw [List.mem_singleton.1 hm]
        have := HSEAT.out
        exact ⟨wf_i64 (by show _ ≤ p.seat; omega) (by show p.seat ≤ _; omega), wf_i64 (by show _ ≤ (0 : Int); omega) (by show (0 : Int) ≤ _; omega)⟩
    obtain ⟨g1, g2, g3, g4⟩ := gap_in HN.out hb8 hn' hi' hk' (r2 := { h'.levels[n].blocks[i].rows[k] with ma := dm, mn := r.mn + 1, mc := dk, marks := r.marks ++ [⟨1, p.seat, 0⟩] }) rfl (by show r.mn + 1 ≤ 1000; omega) ra1 ⟨hrec, by show r.mn + 1 ≤ _; omega, hma0, hr'.1.step, hkeys⟩
    obtain ⟨_, _, ⟨A, hA⟩, _, _⟩ := HCE.out x hb8
    have hgo := HGO.out.down ((below_d (Below.refl _ _)).trans hb2)
    exact ⟨HB7.out.trans (g1.mono HB7.out.size), (set_other (type_ne hgo hA (by decide))).trans hgo, HP7.out.below g1, g2, g3, g4, gap_eq HE.out hn' hi' hk' hn hi hkr rfl (by rw [← HRE.out])⟩
  have hni2 : (n : Int) < (h'.ln : Nat) := by omega
  have hii2 : (i : Int) < (h'.levels[n].bn : Nat) := by omega
  have hki2 : (k : Int) < (h'.levels[n].blocks[i].rn : Nat) := by omega
  refine seq_cut (fun a' w' => ∃ r2 : RowR, FrF 154 [] [(5, .bool true), (6, .slice (some ⟨bp, op, none⟩) P.length c), (8, .int .i64 t), (11, .pointer (some ⟨go, 0, none⟩))] a' ∧ Hid (Below w.heap.size w w' ∧ HallIn w' go h' ∧ Recs PlaceE w' (some ⟨bp, op, none⟩) P.length P ∧ (putP n (putL i (putB k r2 h'.levels[n].blocks[i]) h'.levels[n]) h').In w' ∧ (putP n (putL i (putB k r2 h'.levels[n].blocks[i]) h'.levels[n]) h').Sm ∧ (∀ l ∈ (putP n (putL i (putB k r2 h'.levels[n].blocks[i]) h'.levels[n]) h').levels, l.an ≤ l.ac) ∧ mH [] (putP n (putL i (putB k r2 h'.levels[n].blocks[i]) h'.levels[n]) h') = mH [] (gapH n i k p.seat h))) (fun KD hKD => ?_) ?_
  · generalize hwd : w9.drew = wd at *
    refine region_any (by kernel_rfl) ?_;rw [hwd];refine held_chain (fuel := 7) (fun w' => True ∧ w'.cell? ⟨go, 3, none⟩ = some (.slice (some ⟨bl, ol, none⟩) h'.ln h'.lc) ∧ w'.cell? ⟨gp, 1, none⟩ = some (.int .i64 (n : Int)) ∧ w'.cell? ⟨gp, 2, none⟩ = some (.int .i64 (i : Int)) ∧ w'.cell? ⟨gp, 3, none⟩ = some (.int .i64 (k : Int)) ∧ w'.cell? ⟨gp, 4, none⟩ = some (.int .i64 p.seat) ∧ w'.cell? ⟨bl, ol + n * 8 + 2, none⟩ = some (.slice (some ⟨bb2, ob2, none⟩) h'.levels[n].bn h'.levels[n].bc) ∧ w'.cell? ⟨bb2, ob2 + i * 3 + 1, none⟩ = some (.slice (some ⟨g, 0, none⟩) h'.levels[n].blocks[i].rn h'.levels[n].blocks[i].rc)) [0, 1, 2, 3, 4, 5, 6, 7, 8, 9, 10, 11, 12, 13, 15, 17, 18, 19] rfl (by kernel_rfl) (by kernel_rfl) hF (fun _ _ d _ _ h => by cases d <;> exact h) (HST.out _ (Below.refl _ _)) (fun C hC => ?_);clear hF;refine ChainH.step (v := ?_) rfl rfl rfl rfl ?_ ?_
    rotate_left
    · intro a hF w' hw
      have s11 := hF.slot 11 _ rfl
      clear hw
      clear hF
      go_simp <;> with_reducible rfl
    refine ChainH.step (v := ?_) rfl rfl rfl rfl ?_ ?_
    rotate_left
    · intro a hF w' hw
      have s82 := hF.slot 82 _ rfl
      obtain ⟨_, k3, m1, m2, m3, m4, n2, o1⟩ := hw
      clear hF
      go_simp <;> with_reducible rfl
    refine ChainH.step (v := ?_) rfl rfl rfl rfl ?_ ?_
    rotate_left
    · intro a hF w' hw
      have s9 := hF.slot 9 _ rfl
      clear hw
      clear hF
      go_simp <;> with_reducible rfl
    refine ChainH.step (v := ?_) rfl rfl rfl rfl ?_ ?_
    rotate_left
    · intro a hF w' hw
      have s84 := hF.slot 84 _ rfl
      obtain ⟨_, k3, m1, m2, m3, m4, n2, o1⟩ := hw
      clear hF
      go_simp <;> with_reducible rfl
    refine ChainH.step (v := ?_) rfl rfl rfl rfl ?_ ?_
    rotate_left
    · intro a hF w' hw
      have s83 := hF.slot 83 _ rfl
      have s85 := hF.slot 85 _ rfl
      clear hw
      clear hF
      go_simp <;> with_reducible rfl
    refine ChainH.step (v := ?_) rfl rfl rfl rfl ?_ ?_
    rotate_left
    · intro a hF w' hw
      have s86 := hF.slot 86 _ rfl
      clear hw
      clear hF
      go_simp <;> with_reducible rfl
    refine ChainH.step (v := ?_) rfl rfl rfl rfl ?_ ?_
    rotate_left
    · intro a hF w' hw
      have s87 := hF.slot 87 _ rfl
      obtain ⟨_, k3, m1, m2, m3, m4, n2, o1⟩ := hw
      clear hF
      go_simp <;> with_reducible rfl
    refine ChainH.step (v := ?_) rfl rfl rfl rfl ?_ ?_
    rotate_left
    · intro a hF w' hw
      have s9 := hF.slot 9 _ rfl
      clear hw
      clear hF
      go_simp <;> with_reducible rfl
    refine ChainH.step (v := ?_) rfl rfl rfl rfl ?_ ?_
    rotate_left
    · intro a hF w' hw
      have s89 := hF.slot 89 _ rfl
      obtain ⟨_, k3, m1, m2, m3, m4, n2, o1⟩ := hw
      clear hF
      go_simp <;> with_reducible rfl
    refine ChainH.step (v := ?_) rfl rfl rfl rfl ?_ ?_
    rotate_left
    · intro a hF w' hw
      have s88 := hF.slot 88 _ rfl
      have s90 := hF.slot 90 _ rfl
      clear hw
      clear hF
      go_simp <;> with_reducible rfl
    refine ChainH.step (v := ?_) rfl rfl rfl rfl ?_ ?_
    rotate_left
    · intro a hF w' hw
      have s91 := hF.slot 91 _ rfl
      clear hw
      clear hF
      go_simp <;> with_reducible rfl
    refine ChainH.step (v := ?_) rfl rfl rfl rfl ?_ ?_
    rotate_left
    · intro a hF w' hw
      have s92 := hF.slot 92 _ rfl
      obtain ⟨_, k3, m1, m2, m3, m4, n2, o1⟩ := hw
      clear hF
      go_simp <;> with_reducible rfl
    refine ChainH.step (v := ?_) rfl rfl rfl rfl ?_ ?_
    rotate_left
    · intro a hF w' hw
      have s9 := hF.slot 9 _ rfl
      clear hw
      clear hF
      go_simp <;> with_reducible rfl
    refine ChainH.step (v := ?_) rfl rfl rfl rfl ?_ ?_
    rotate_left
    · intro a hF w' hw
      have s94 := hF.slot 94 _ rfl
      obtain ⟨_, k3, m1, m2, m3, m4, n2, o1⟩ := hw
      clear hF
      go_simp <;> with_reducible rfl
    refine ChainH.step (v := ?_) rfl rfl rfl rfl ?_ ?_
    rotate_left
    · intro a hF w' hw
      have s10 := hF.slot 10 _ rfl
      clear hw
      clear hF
      go_simp <;> with_reducible rfl
    refine ChainH.step (v := ?_) rfl rfl rfl rfl ?_ ?_
    rotate_left
    · intro a hF w' hw
      have s9 := hF.slot 9 _ rfl
      clear hw
      clear hF
      go_simp <;> with_reducible rfl
    refine ChainH.step (v := ?_) rfl rfl rfl rfl ?_ ?_
    rotate_left
    · intro a hF w' hw
      have s99 := hF.slot 99 _ rfl
      obtain ⟨_, k3, m1, m2, m3, m4, n2, o1⟩ := hw
      clear hF
      go_simp <;> with_reducible rfl
    refine ChainH.step (v := ?_) rfl rfl rfl rfl ?_ ?_
    rotate_left
    · intro a hF w' hw
      have s100 := hF.slot 100 _ rfl
      clear hw
      clear hF
      go_simp <;> with_reducible rfl
    refine hC _ (fun a hF => ?_);clear hC C;refine held_two (n := 14) (m := 20) (fuel := 6) (by kernel_rfl) ?_ ?_
    · have HN := Lib.hid HAS.out.lit
      clear HAS
      refine ze0 rfl rfl rfl hF rfl ?_;clear hF;refine fun a hF => ⟨?_, ?_⟩
      · intro _
        exact HST.out _ HN.out.below
      generalize wd.alloc (.cells #[] 68) = x1 at *
      obtain ⟨g0, hg0⟩ : ∃ g, g = wd.heap.size := ⟨_, rfl⟩
      rw [← hg0] at hF HN
      have HAS := HN
      clear hg0 HN
      refine held_two (n := 16) (m := 20) (fuel := 5) (by kernel_rfl) ?_ ?_
      · obtain ⟨la3, lc3, x2, hAPP, has⟩ := HAS.out.app 52 52 (u := .slice r.ma r.mn r.mc) Try.underlying52 info_mark rfl (by decide) (HRC.out _ HAS.out.below) (D' := r.marks) rfl (by rw [HRL.out]; omega)
        have HN := Lib.hid has
        clear HAS has
        refine op_append rfl rfl rfl rfl rfl hF rfl rfl rfl hAPP (fun a hF => ⟨?_, ?_⟩)
        · intro _
          exact HST.out _ HN.out.below
        have HAS := HN
        clear hAPP HN
        have HN := Lib.hid (HAS.out.one (arr := #[.int .i64 1, .int .i64 p.seat, .int .i64 0]) rfl)
        clear HAS
        refine held_one (n := 20) (fuel := 4) (by kernel_rfl) ?_;refine ze1 101 rfl rfl rfl hF rfl rfl ?_;clear hF;refine fun a hF => ⟨?_, ?_⟩
        · intro _
          exact HST.out _ HN.out.below
        generalize x2.alloc (.cells #[.int .i64 1, .int .i64 p.seat, .int .i64 0] 68) = x3 at *
        obtain ⟨g5, hg5⟩ : ∃ g, g = x2.heap.size := ⟨_, rfl⟩
        rw [← hg5] at hF HN
        have HAS := HN
        clear hg5 HN
        obtain ⟨dm, dk, x4, hAPP, has⟩ := HAS.out.app 52 52 Try.underlying52 info_mark rfl (by decide) HAS.out.rcs (D' := r.marks ++ [⟨1, p.seat, 0⟩]) rfl (by simp only [List.length_append, HRL.out, List.length_singleton]; omega)
        have HN := Lib.hid has
        clear HAS has
        refine held_one (n := 21) (fuel := 3) (by kernel_rfl) ?_;refine op_append rfl rfl rfl rfl rfl hF rfl rfl rfl hAPP (fun a hF => ⟨?_, ?_⟩)
        · intro _
          exact HST.out _ HN.out.below
        have HAS := HN
        clear hAPP HN
        have hdl : (r.marks ++ [(⟨1, p.seat, 0⟩ : MarkR)]).length = r.mn + 1 := by rw [List.length_append, HRL.out]; rfl
        rw [hdl] at hF HAS
        obtain ⟨_, _, _, y6, fy⟩ := HCE.out _ (HB8d.out.trans (HAS.out.below.mono HBZ8.out))
        refine held_go (fuel := 1) [22, 23] rfl (by kernel_rfl) (by kernel_rfl) hF (fun _ _ d _ _ h => by cases d <;> exact h) (HST.out _ HAS.out.below) (fun C hC => ?_);clear hF;refine ChainH.step (v := ?_) rfl rfl rfl rfl ?_ ?_
        rotate_left
        · intro a hF w' hw
          have s93 := hF.slot 93 _ rfl
          have s95 := hF.slot 95 _ rfl
          clear hw
          clear hF
          go_simp <;> with_reducible rfl
        refine ChainH.step (v := ?_) rfl rfl rfl rfl ?_ ?_
        rotate_left
        · intro a hF w' hw
          have s104 := hF.slot 104 _ rfl
          clear hw
          clear hF
          go_simp <;> with_reducible rfl
        refine hC _ (fun a hF => ?_);clear hC C;refine held_one (n := 24) (fuel := 0) (by kernel_rfl) ?_;refine zu2 103 105 rfl rfl hF rfl rfl rfl ?_;clear hF;refine fun a hF => ⟨?_, ?_⟩
        · intro _
          exact HSTL.out _ _ HAS.out.below
        clear y6 fy
        refine held_end (by kernel_rfl) ?_;replace hF := hF.kp [5, 6, 8, 11] rfl
        have HQ := HFIN.out _ dm dk HAS.out.below (by have := HAS.out.set (o := k * 8 + 6) (v := .slice dm (r.mn + 1) dk) HGB.out; rwa [hdl] at this)
        exact hKD _ _ ⟨_, hF, HQ⟩
      · have HN := Lib.hid (HAS.out.one (arr := #[.int .i64 1, .int .i64 p.seat, .int .i64 0]) rfl)
        clear HAS
        refine ze1 101 rfl rfl rfl hF rfl rfl ?_;clear hF;refine fun a hF => ⟨?_, ?_⟩
        · intro _
          exact HST.out _ HN.out.below
        generalize x1.alloc (.cells #[.int .i64 1, .int .i64 p.seat, .int .i64 0] 68) = x2 at *
        obtain ⟨g5, hg5⟩ : ∃ g, g = x1.heap.size := ⟨_, rfl⟩
        rw [← hg5] at hF HN
        have HAS := HN
        clear hg5 HN
        obtain ⟨la3, lc3, x3, hAPP, has⟩ := HAS.out.app 52 52 (u := .slice r.ma r.mn r.mc) Try.underlying52 info_mark rfl (by decide) (HRC.out _ HAS.out.below) (D' := r.marks) rfl (by rw [HRL.out]; omega)
        have HN := Lib.hid has
        clear HAS has
        refine held_one (n := 16) (fuel := 4) (by kernel_rfl) ?_;refine op_append rfl rfl rfl rfl rfl hF rfl rfl rfl hAPP (fun a hF => ⟨?_, ?_⟩)
        · intro _
          exact HST.out _ HN.out.below
        have HAS := HN
        clear hAPP HN
        obtain ⟨dm, dk, x4, hAPP, has⟩ := HAS.out.app 52 52 Try.underlying52 info_mark rfl (by decide) HAS.out.rcs (D' := r.marks ++ [⟨1, p.seat, 0⟩]) rfl (by simp only [List.length_append, HRL.out, List.length_singleton]; omega)
        have HN := Lib.hid has
        clear HAS has
        refine held_one (n := 21) (fuel := 3) (by kernel_rfl) ?_;refine op_append rfl rfl rfl rfl rfl hF rfl rfl rfl hAPP (fun a hF => ⟨?_, ?_⟩)
        · intro _
          exact HST.out _ HN.out.below
        have HAS := HN
        clear hAPP HN
        have hdl : (r.marks ++ [(⟨1, p.seat, 0⟩ : MarkR)]).length = r.mn + 1 := by rw [List.length_append, HRL.out]; rfl
        rw [hdl] at hF HAS
        obtain ⟨_, _, _, y6, fy⟩ := HCE.out _ (HB8d.out.trans (HAS.out.below.mono HBZ8.out))
        refine held_go (fuel := 1) [22, 23] rfl (by kernel_rfl) (by kernel_rfl) hF (fun _ _ d _ _ h => by cases d <;> exact h) (HST.out _ HAS.out.below) (fun C hC => ?_);clear hF;refine ChainH.step (v := ?_) rfl rfl rfl rfl ?_ ?_
        rotate_left
        · intro a hF w' hw
          have s93 := hF.slot 93 _ rfl
          have s95 := hF.slot 95 _ rfl
          clear hw
          clear hF
          go_simp <;> with_reducible rfl
        refine ChainH.step (v := ?_) rfl rfl rfl rfl ?_ ?_
        rotate_left
        · intro a hF w' hw
          have s104 := hF.slot 104 _ rfl
          clear hw
          clear hF
          go_simp <;> with_reducible rfl
        refine hC _ (fun a hF => ?_);clear hC C;refine held_one (n := 24) (fuel := 0) (by kernel_rfl) ?_;refine zu2 103 105 rfl rfl hF rfl rfl rfl ?_;clear hF;refine fun a hF => ⟨?_, ?_⟩
        · intro _
          exact HSTL.out _ _ HAS.out.below
        clear y6 fy
        refine held_end (by kernel_rfl) ?_;replace hF := hF.kp [5, 6, 8, 11] rfl
        have HQ := HFIN.out _ dm dk HAS.out.below (by have := HAS.out.set (o := k * 8 + 6) (v := .slice dm (r.mn + 1) dk) HGB.out; rwa [hdl] at this)
        exact hKD _ _ ⟨_, hF, HQ⟩
    · have HN := Lib.hid (HAS.out.one (arr := #[.int .i64 1, .int .i64 p.seat, .int .i64 0]) rfl)
      clear HAS
      refine ze1 101 rfl rfl rfl hF rfl rfl ?_;clear hF;refine fun a hF => ⟨?_, ?_⟩
      · intro _
        exact HST.out _ HN.out.below
      generalize wd.alloc (.cells #[.int .i64 1, .int .i64 p.seat, .int .i64 0] 68) = x1 at *
      obtain ⟨g5, hg5⟩ : ∃ g, g = wd.heap.size := ⟨_, rfl⟩
      rw [← hg5] at hF HN
      have HAS := HN
      clear hg5 HN
      have HN := Lib.hid HAS.out.lit
      clear HAS
      refine held_one (n := 14) (fuel := 5) (by kernel_rfl) ?_;refine ze0 rfl rfl rfl hF rfl ?_;clear hF;refine fun a hF => ⟨?_, ?_⟩
      · intro _
        exact HST.out _ HN.out.below
      generalize x1.alloc (.cells #[] 68) = x2 at *
      obtain ⟨g0, hg0⟩ : ∃ g, g = x1.heap.size := ⟨_, rfl⟩
      rw [← hg0] at hF HN
      have HAS := HN
      clear hg0 HN
      obtain ⟨la3, lc3, x3, hAPP, has⟩ := HAS.out.app 52 52 (u := .slice r.ma r.mn r.mc) Try.underlying52 info_mark rfl (by decide) (HRC.out _ HAS.out.below) (D' := r.marks) rfl (by rw [HRL.out]; omega)
      have HN := Lib.hid has
      clear HAS has
      refine held_one (n := 16) (fuel := 4) (by kernel_rfl) ?_;refine op_append rfl rfl rfl rfl rfl hF rfl rfl rfl hAPP (fun a hF => ⟨?_, ?_⟩)
      · intro _
        exact HST.out _ HN.out.below
      have HAS := HN
      clear hAPP HN
      obtain ⟨dm, dk, x4, hAPP, has⟩ := HAS.out.app 52 52 Try.underlying52 info_mark rfl (by decide) HAS.out.rcs (D' := r.marks ++ [⟨1, p.seat, 0⟩]) rfl (by simp only [List.length_append, HRL.out, List.length_singleton]; omega)
      have HN := Lib.hid has
      clear HAS has
      refine held_one (n := 21) (fuel := 3) (by kernel_rfl) ?_;refine op_append rfl rfl rfl rfl rfl hF rfl rfl rfl hAPP (fun a hF => ⟨?_, ?_⟩)
      · intro _
        exact HST.out _ HN.out.below
      have HAS := HN
      clear hAPP HN
      have hdl : (r.marks ++ [(⟨1, p.seat, 0⟩ : MarkR)]).length = r.mn + 1 := by rw [List.length_append, HRL.out]; rfl
      rw [hdl] at hF HAS
      obtain ⟨_, _, _, y6, fy⟩ := HCE.out _ (HB8d.out.trans (HAS.out.below.mono HBZ8.out))
      refine held_go (fuel := 1) [22, 23] rfl (by kernel_rfl) (by kernel_rfl) hF (fun _ _ d _ _ h => by cases d <;> exact h) (HST.out _ HAS.out.below) (fun C hC => ?_);clear hF;refine ChainH.step (v := ?_) rfl rfl rfl rfl ?_ ?_
      rotate_left
      · intro a hF w' hw
        have s93 := hF.slot 93 _ rfl
        have s95 := hF.slot 95 _ rfl
        clear hw
        clear hF
        go_simp <;> with_reducible rfl
      refine ChainH.step (v := ?_) rfl rfl rfl rfl ?_ ?_
      rotate_left
      · intro a hF w' hw
        have s104 := hF.slot 104 _ rfl
        clear hw
        clear hF
        go_simp <;> with_reducible rfl
      refine hC _ (fun a hF => ?_);clear hC C;refine held_one (n := 24) (fuel := 0) (by kernel_rfl) ?_;refine zu2 103 105 rfl rfl hF rfl rfl rfl ?_;clear hF;refine fun a hF => ⟨?_, ?_⟩
      · intro _
        exact HSTL.out _ _ HAS.out.below
      clear y6 fy
      refine held_end (by kernel_rfl) ?_;replace hF := hF.kp [5, 6, 8, 11] rfl
      have HQ := HFIN.out _ dm dk HAS.out.below (by have := HAS.out.set (o := k * 8 + 6) (v := .slice dm (r.mn + 1) dk) HGB.out; rwa [hdl] at this)
      exact hKD _ _ ⟨_, hF, HQ⟩
  clear hF HAS HST HSTL HRC HFIN HCE HBZ HBZ8 HGB HB8d HB89 HP7 HGO HPI9 HN
  rintro a w10 ⟨r2, hF, HEND⟩
  have HGH : Hid (HallIn w10 go (putP n (putL i (putB k r2 h'.levels[n].blocks[i]) h'.levels[n]) h')) := HEND.out.2.1
  generalize (putP n (putL i (putB k r2 h'.levels[n].blocks[i]) h'.levels[n]) h') = h2 at *
  have HSAT : Hid (placesS (gapH n i k p.seat h) = (P.eraseIdx t).map (decP t)) := by
    show _ = _
    rw [HPE.out]
    exact HS.out.gap HNO.out
  have hql : ((P.eraseIdx t).map (decP t)).length = P.length - 1 := by rw [List.length_map, List.length_eraseIdx, if_pos hk]
  have HFG : Hid (faultsS (gapH n i k p.seat h) = []) := gap_faults HF0.out (fun l b r' hl hb hr => by
    obtain ⟨_, rfl⟩ := zip_at hl
    obtain ⟨_, rfl⟩ := zip_at hb
    obtain ⟨_, rfl⟩ := zip_at hr
    rw [← HRE.out]
    exact ⟨HS.out.lo, HS.out.hi, HNO.out, by rw [HRL.out]; exact hmn8⟩) (by rw [HSAT.out, hql]; omega)
  obtain ⟨hput1, hput2⟩ := build_named HEND.out.2.2.2.2.2.2
  have HPF : Hid ((buildS h2).1 = (P.eraseIdx t).map (decP t) ∧ (buildS h2).2 = []) := by
    have h1 : faultsS h2 = [] := (errs_nil hput1).2 HFG.out
    show _ ∧ _
    unfold buildS
    rw [if_pos h1]
    exact ⟨hput2.trans HSAT.out, rfl⟩
  have HCM := Lib.hid (comp_build h)
  have hbs : (buildS h).1 = P := by
    unfold buildS
    rw [if_pos HF0.out, HPE.out]
  rw [hbs] at HCM
  have HQL := Lib.hid hql
  have hql2 : ((P.eraseIdx t).map (decP t)).length ≤ 4000 := by omega
  clear hql hput1 hput2 HSAT HFG hbs HF0 HSN HPE HPP HS HMK HNO HLI HBI HRI HRE HRL HE HNM HSEAT HLL HG HSM
  obtain ⟨c0, c1, c2, c3⟩ := HGH.out.cells
  refine wp_seq_k (fun K hK => ?_);refine region_sk [0] [1, 2, 3, 4, 5, 6] hF fun C hC => ?_;clear hF;refine zs1 11 rfl rfl ?_;refine hC _ (fun a hF => ?_);clear hC C;refine seq_one ?_;refine op_call [_] rfl rfl hF rfl (by kernel_rfl) ⟨rfl, trivial⟩ (fun K hK => ?_);clear hF
  refine (build_any w10 h2 HEND.out.2.2.2.1 HEND.out.2.2.2.2.1 HEND.out.2.2.2.2.2.1).mono ?_
  rintro e w11 ⟨⟨la2, n2, c2', fa2, m2, d2, rfl, hp2, hpf2⟩, hb11⟩
  rw [HPF.out.1] at hp2
  rw [HPF.out.2] at hpf2
  have HB11 : Hid (Below w.heap.size w w11) := HEND.out.1.trans (hb11.mono HEND.out.1.size)
  have HP11 := Lib.hid (HEND.out.2.2.1.below hb11)
  have HQ11 := Lib.hid hp2
  obtain rfl : ((P.eraseIdx t).map (decP t)).length = n2 := hp2.1
  obtain rfl : 0 = m2 := hpf2.1
  have HEG := Lib.hid (fun i (hi : i < ((P.eraseIdx t).map (decP t)).length) => erase_get hk hi)
  clear c0 c1 c2 c3 hp2 hpf2 hb11 HPF HEND HGH
  generalize (P.eraseIdx t).map (decP t) = Q at *
  refine hK _ _ (fun a hF => ?_);clear hK K;refine seq_ck [2, 3, 4, 5, 6] [] hF fun C hC => ?_;clear hF;refine zm rfl rfl rfl ?_;refine zs1 106 rfl rfl ?_;refine zs1 106 rfl rfl ?_;refine za rfl rfl rfl ?_;refine za rfl rfl rfl ?_;refine hC _ (fun a hF => ?_);clear hC C;refine seq_end ?_;replace hF := hF.kp [5, 6, 8, 12, 13] rfl;refine hK _ _ ?_;clear hK;(try clear K)
  have hw1 : IntKind.i64.wrap (((P.length : Nat) : Int) - 1) = ((Q.length : Nat) : Int) := by
    have := HQL.out
    rw [wrap_in (by omega) (by omega)]
    omega
  refine wp_seq_k (fun K hK => ?_);refine wp_seq_k (fun K hK => ?_);refine region_sk [0, 1, 2, 3, 4, 5, 6, 7, 8, 9, 10] [] hF fun C hC => ?_;clear hF;refine zm rfl rfl rfl ?_;refine zs1 111 rfl rfl ?_;refine zs1 112 rfl rfl ?_;refine zm rfl rfl rfl ?_;refine zm rfl rfl rfl ?_;refine zs1 115 rfl rfl ?_;refine zm rfl rfl rfl ?_;refine zs1 117 rfl rfl ?_;refine zs1 118 rfl rfl ?_;refine zs2 116 119 rfl rfl rfl ?_;refine zs2 114 120 rfl rfl rfl ?_;refine hC _ (fun a hF => ?_);clear hC C;refine seq_end ?_;replace hF := hF.kp [5, 6, 8, 12, 121] rfl;refine hK _ _ ?_;clear hK;(try clear K)
  refine cond_no hF rfl ?_
  refine wp_skip ?_
  refine hK _ _ ?_;clear hK;(try clear K)
  clear hw1
  refine wp_seq_k (fun KA hKA => ?_);refine wp_seq_k (fun K hK => ?_);refine region_sk [0] [] hF fun C hC => ?_;clear hF;refine za rfl rfl rfl ?_;refine hC _ (fun a hF => ?_);clear hC C;refine seq_end ?_;replace hF := hF.kp [5, 6, 8, 12, 14] rfl;refine hK _ _ ?_;clear hK;(try clear K)
  refine wp_block ?_
  refine loop_fr (fun q a' w' => ∃ j : Nat, j + q = Q.length ∧ FrF 154 [] [(5, .bool true), (6, .slice (some ⟨bp, op, none⟩) P.length c), (8, .int .i64 t), (12, .slice la2 Q.length c2'), (14, .int .i64 j)] a' ∧ Hid (Below w11.heap.size w11 w')) Q.length ⟨0, by omega, hF, Below.refl _ _⟩ ?_
  clear hF
  rintro rk a wr ⟨j, hjk, hF, HB⟩ KB hKB
  refine wp_seq_k (fun K hK => ?_);refine wp_seq_k (fun K hK => ?_)
  by_cases hlt : j < Q.length
  rotate_left
  · have hlti : ¬ (j : Int) < (Q.length : Nat) := by omega
    refine region_sk [0, 1, 2, 3] [] hF fun C hC => ?_;clear hF;refine zm rfl rfl rfl ?_;refine zm rfl rfl rfl ?_;refine zs1 123 rfl rfl ?_;refine zs2 122 124 rfl rfl rfl ?_;refine hC _ (fun a hF => ?_);clear hC C;refine seq_end ?_;replace hF := hF.kp [5, 6, 8, 12, 14, 125] rfl;refine hK _ _ ?_;clear hK;(try clear K)
    refine cond_no hF rfl ?_
    refine wp_exit ?_
    refine hKA _ _ ?_;clear hKA;(try clear KA);refine wp_seq_k (fun K hK => ?_);refine region_sk [0, 1] [] hF fun C hC => ?_;clear hF;refine zm rfl rfl rfl ?_;refine za rfl rfl rfl ?_;refine hC _ (fun a hF => ?_);clear hC C;refine seq_end ?_;replace hF := hF.kp [4] rfl;refine hK _ _ ?_;clear hK;(try clear K);refine wp_ret ?_;(try simp only [then_ret, block_ret, goto_ret]);refine ret_fr (fn := Try.f8) (rs := [.tmp 4]) rfl [_] hF ⟨rfl, trivial⟩ ?_
    exact ⟨rfl, HB11.out.trans (HB.out.mono HB11.out.size)⟩
  have hlti : (j : Int) < (Q.length : Nat) := by omega
  refine region_sk [0, 1, 2, 3] [] hF fun C hC => ?_;clear hF;refine zm rfl rfl rfl ?_;refine zm rfl rfl rfl ?_;refine zs1 123 rfl rfl ?_;refine zs2 122 124 rfl rfl rfl ?_;refine hC _ (fun a hF => ?_);clear hC C;refine seq_end ?_;replace hF := hF.kp [5, 6, 8, 12, 14, 125] rfl;refine hK _ _ ?_;clear hK;(try clear K)
  refine cond_yes hF rfl ?_
  refine wp_skip ?_
  refine hK _ _ ?_;clear hK;(try clear K);replace hF := hF.kp [5, 6, 8, 12, 14] rfl
  clear hKA
  obtain ⟨hkk, hqe⟩ := HEG.out j hlt
  obtain ⟨kk, hkke⟩ : ∃ kk, kk = if t ≤ j then j + 1 else j := ⟨_, rfl⟩
  have hkk2 : kk < P.length := by rw [hkke]; exact hkk
  have hpk : P[if t ≤ j then j + 1 else j] = P[kk] := by congr 1; exact hkke.symm
  rw [hpk] at hqe
  clear hpk hkk
  have hkk := hkk2
  have HKK := Lib.hid hkke
  clear hkke
  have hyb := wth_bd HCM.out hn4 hkk
  obtain ⟨bq, oq, hla, d0, d1, d2', d3, d4, d5, d6, d7, d8⟩ := place_at (HQ11.out.below HB.out) j hlt hlt
  subst hla
  rw [hqe] at d0 d1 d2' d3 d4 d5 d6 d7 d8
  clear hqe
  refine seq_cut (fun a' w' => FrF 154 [] [(5, .bool true), (6, .slice (some ⟨bp, op, none⟩) P.length c), (8, .int .i64 t), (12, .slice (some ⟨bq, oq, none⟩) Q.length c2'), (14, .int .i64 j)] a' ∧ Hid (Below w11.heap.size w11 w')) (fun KC hKC => ?_) ?_
  rotate_left
  · clear hF HB d0 d1 d2' d3 d4 d5 d6 d7 d8
    rintro a w' ⟨hF, HB⟩
    have hws : IntKind.i64.wrap ((j : Int) + 1) = ((j + 1 : Nat) : Int) := wrap_succ (by omega)
    refine region_sk [0, 1, 2] [] hF fun C hC => ?_;clear hF;refine zm rfl rfl rfl ?_;refine zs1 126 rfl rfl ?_;refine za rfl rfl rfl ?_;refine hC _ (fun a hF => ?_);clear hC C;refine seq_end ?_;replace hF := hF.kp [5, 6, 8, 12, 14] rfl
    exact hKB (Q.length - (j + 1)) _ _ (by omega) ⟨j + 1, by omega, hF, HB⟩
  clear hKB hjk
  refine wp_block ?_
  refine wp_seq_k (fun K hK => ?_);refine region_sk [0, 1] [] hF fun C hC => ?_;clear hF;refine zm rfl rfl rfl ?_;refine za rfl rfl rfl ?_;refine hC _ (fun a hF => ?_);clear hC C;refine seq_end ?_;replace hF := hF.kp [5, 6, 8, 12, 14, 15] rfl;refine hK _ _ ?_;clear hK;(try clear K)
  refine seq_cut (fun a' w' => w' = wr ∧ FrF 154 [] [(5, .bool true), (6, .slice (some ⟨bp, op, none⟩) P.length c), (8, .int .i64 t), (12, .slice (some ⟨bq, oq, none⟩) Q.length c2'), (14, .int .i64 j), (15, .int .i64 kk)] a') (fun KD hKD => ?_) ?_
  · refine wp_seq_k (fun K hK => ?_)
    by_cases htj : t ≤ j
    · have htji : (t : Int) ≤ (j : Int) := by omega
      have hws : IntKind.i64.wrap ((j : Int) + 1) = ((j + 1 : Nat) : Int) := wrap_succ (by omega)
      refine region_sk [0, 1, 2] [] hF fun C hC => ?_;clear hF;refine zm rfl rfl rfl ?_;refine zm rfl rfl rfl ?_;refine zs2 129 130 rfl rfl rfl ?_;refine hC _ (fun a hF => ?_);clear hC C;refine seq_end ?_;replace hF := hF.kp [5, 6, 8, 12, 14, 15, 131] rfl;refine hK _ _ ?_;clear hK;(try clear K)
      refine cond_yes hF rfl ?_
      refine region_sk [0, 1, 2] [] hF fun C hC => ?_;clear hF;refine zm rfl rfl rfl ?_;refine zs1 132 rfl rfl ?_;refine za rfl rfl rfl ?_;refine hC _ (fun a hF => ?_);clear hC C;refine seq_end ?_;replace hF := hF.kp [5, 6, 8, 12, 14, 15] rfl
      refine hKD _ _ ⟨rfl, ?_⟩
      have := HKK.out
      rw [if_pos htj] at this
      rw [this]
      exact hF
    · have htji : ¬ (t : Int) ≤ (j : Int) := by omega
      refine region_sk [0, 1, 2] [] hF fun C hC => ?_;clear hF;refine zm rfl rfl rfl ?_;refine zm rfl rfl rfl ?_;refine zs2 129 130 rfl rfl rfl ?_;refine hC _ (fun a hF => ?_);clear hC C;refine seq_end ?_;replace hF := hF.kp [5, 6, 8, 12, 14, 15, 131] rfl;refine hK _ _ ?_;clear hK;(try clear K)
      refine cond_no hF rfl ?_
      refine wp_skip ?_
      refine hKD _ _ ⟨rfl, ?_⟩
      have := HKK.out
      rw [if_neg htj] at this
      rw [this]
      exact hF.sub ⟨rfl, rfl, rfl, rfl, rfl, rfl, trivial⟩
  clear hF HKK
  rintro a w' ⟨hw', hF⟩
  subst hw'
  obtain ⟨z, hz⟩ : ∃ z, z = decP t P[kk] := ⟨_, rfl⟩
  rw [← hz] at d0 d1 d2' d3 d4 d5 d6 d7 d8
  have HZE := Lib.hid hz
  clear hz
  refine wp_seq_k (fun K hK => ?_);refine region_sk [0, 1, 2, 3] [4, 5] hF fun C hC => ?_;clear hF;refine zm rfl rfl rfl ?_;refine zm rfl rfl rfl ?_;refine zs2 134 135 rfl rfl rfl ?_;refine zs1 136 rfl rfl ?_;refine hC _ (fun a hF => ?_);clear hC C;refine seq_one ?_;refine ze0 rfl rfl rfl hF rfl ?_;clear hF;refine fun a hF => ?_
  have hs0 : (w'.alloc (.cells #[.int .i64 0, .int .i64 0, .int .i64 0, .int .i64 0, .int .i64 0, .int .i64 0, .int .i64 0, .int .i64 0, .int .i64 0] 35)).heap[w'.heap.size]? = some (.cells #[.int .i64 0, .int .i64 0, .int .i64 0, .int .i64 0, .int .i64 0, .int .i64 0, .int .i64 0, .int .i64 0, .int .i64 0] 35 (0, 0)) := World.alloc_heap_new _ _
  have hb1 := Joins.below_alloc1 w' (.cells #[.int .i64 0, .int .i64 0, .int .i64 0, .int .i64 0, .int .i64 0, .int .i64 0, .int .i64 0, .int .i64 0, .int .i64 0] 35)
  generalize w'.alloc (.cells #[.int .i64 0, .int .i64 0, .int .i64 0, .int .i64 0, .int .i64 0, .int .i64 0, .int .i64 0, .int .i64 0, .int .i64 0] 35) = wa at *
  obtain ⟨ga, hgv⟩ : ∃ g, g = w'.heap.size := ⟨_, rfl⟩
  have hgw : w'.heap.size ≤ ga := Nat.le_of_eq hgv.symm
  rw [← hgv] at hF hs0
  clear hgv
  have hSV := run_storeVar_row (P := Try.prog) wa ga 35 35 #[.int .i64 0, .int .i64 0, .int .i64 0, .int .i64 0, .int .i64 0, .int .i64 0, .int .i64 0, .int .i64 0, .int .i64 0] #[.int .i64 z.kind, .int .i64 z.level, .int .i64 z.block, .int .i64 z.row, .int .i64 z.seat, .int .i64 z.x, .int .i64 z.y, .int .i64 z.view, .int .i64 z.wth] hs0 (by kernel_rfl) rfl (by simp [Value.oneCell'])
  have hs2 := setRow_heap wa ga #[.int .i64 0, .int .i64 0, .int .i64 0, .int .i64 0, .int .i64 0, .int .i64 0, .int .i64 0, .int .i64 0, .int .i64 0] #[.int .i64 z.kind, .int .i64 z.level, .int .i64 z.block, .int .i64 z.row, .int .i64 z.seat, .int .i64 z.x, .int .i64 z.y, .int .i64 z.view, .int .i64 z.wth] 35 (0, 0) hs0
  have hb2 : Below w'.heap.size w' (wa.setRow ga #[.int .i64 z.kind, .int .i64 z.level, .int .i64 z.block, .int .i64 z.row, .int .i64 z.seat, .int .i64 z.x, .int .i64 z.y, .int .i64 z.view, .int .i64 z.wth]) := below_setRow hb1 hgw #[.int .i64 z.kind, .int .i64 z.level, .int .i64 z.block, .int .i64 z.row, .int .i64 z.seat, .int .i64 z.x, .int .i64 z.y, .int .i64 z.view, .int .i64 z.wth]
  have HTW := Lib.hid (And.intro hb2 (And.intro hs2 hgw))
  clear hs0 hb1 hs2 hb2 hgw
  refine seq_one ?_;refine op_storev rfl rfl hF rfl rfl rfl rfl hSV ?_;clear hF;refine fun a hF => ?_
  clear hSV
  refine hK _ _ ?_;clear hK;(try clear K)
  generalize wa.setRow ga #[.int .i64 z.kind, .int .i64 z.level, .int .i64 z.block, .int .i64 z.row, .int .i64 z.seat, .int .i64 z.x, .int .i64 z.y, .int .i64 z.view, .int .i64 z.wth] = w12 at *

  have HA : Hid (PlcIn w12 ga z) := HTW.out.2.1
  have HB12 : Hid (Below w11.heap.size w11 w12) := HB.out.trans (HTW.out.1.mono HB.out.size)
  clear HTW HB d0 d1 d2' d3 d4 d5 d6 d7 d8
  obtain ⟨_, _, hla, d0, d1, d2', d3, d4, d5, d6, d7, d8⟩ := place_at (HP11.out.below HB12.out) kk hkk hkk
  cases hla
  have hkki : (kk : Int) < (P.length : Nat) := by omega
  generalize P[kk] = y at *
  refine wp_seq_k (fun K hK => ?_);refine region_sk [0, 1, 2, 3] [4, 5] hF fun C hC => ?_;clear hF;refine zm rfl rfl rfl ?_;refine zm rfl rfl rfl ?_;refine zs2 138 139 rfl rfl rfl ?_;refine zs1 140 rfl rfl ?_;refine hC _ (fun a hF => ?_);clear hC C;refine seq_one ?_;refine ze0 rfl rfl rfl hF rfl ?_;clear hF;refine fun a hF => ?_
  have hs0 : (w12.alloc (.cells #[.int .i64 0, .int .i64 0, .int .i64 0, .int .i64 0, .int .i64 0, .int .i64 0, .int .i64 0, .int .i64 0, .int .i64 0] 35)).heap[w12.heap.size]? = some (.cells #[.int .i64 0, .int .i64 0, .int .i64 0, .int .i64 0, .int .i64 0, .int .i64 0, .int .i64 0, .int .i64 0, .int .i64 0] 35 (0, 0)) := World.alloc_heap_new _ _
  have hb1 := Joins.below_alloc1 w12 (.cells #[.int .i64 0, .int .i64 0, .int .i64 0, .int .i64 0, .int .i64 0, .int .i64 0, .int .i64 0, .int .i64 0, .int .i64 0] 35)
  generalize w12.alloc (.cells #[.int .i64 0, .int .i64 0, .int .i64 0, .int .i64 0, .int .i64 0, .int .i64 0, .int .i64 0, .int .i64 0, .int .i64 0] 35) = wa at *
  obtain ⟨gb, hgv⟩ : ∃ g, g = w12.heap.size := ⟨_, rfl⟩
  have hgw : w12.heap.size ≤ gb := Nat.le_of_eq hgv.symm
  rw [← hgv] at hF hs0
  clear hgv
  have hSV := run_storeVar_row (P := Try.prog) wa gb 35 35 #[.int .i64 0, .int .i64 0, .int .i64 0, .int .i64 0, .int .i64 0, .int .i64 0, .int .i64 0, .int .i64 0, .int .i64 0] #[.int .i64 y.kind, .int .i64 y.level, .int .i64 y.block, .int .i64 y.row, .int .i64 y.seat, .int .i64 y.x, .int .i64 y.y, .int .i64 y.view, .int .i64 y.wth] hs0 (by kernel_rfl) rfl (by simp [Value.oneCell'])
  have hs2 := setRow_heap wa gb #[.int .i64 0, .int .i64 0, .int .i64 0, .int .i64 0, .int .i64 0, .int .i64 0, .int .i64 0, .int .i64 0, .int .i64 0] #[.int .i64 y.kind, .int .i64 y.level, .int .i64 y.block, .int .i64 y.row, .int .i64 y.seat, .int .i64 y.x, .int .i64 y.y, .int .i64 y.view, .int .i64 y.wth] 35 (0, 0) hs0
  have hb2 : Below w12.heap.size w12 (wa.setRow gb #[.int .i64 y.kind, .int .i64 y.level, .int .i64 y.block, .int .i64 y.row, .int .i64 y.seat, .int .i64 y.x, .int .i64 y.y, .int .i64 y.view, .int .i64 y.wth]) := below_setRow hb1 hgw #[.int .i64 y.kind, .int .i64 y.level, .int .i64 y.block, .int .i64 y.row, .int .i64 y.seat, .int .i64 y.x, .int .i64 y.y, .int .i64 y.view, .int .i64 y.wth]
  have HTW := Lib.hid (And.intro hb2 (And.intro hs2 hgw))
  clear hs0 hb1 hs2 hb2 hgw
  refine seq_one ?_;refine op_storev rfl rfl hF rfl rfl rfl rfl hSV ?_;clear hF;refine fun a hF => ?_
  clear hSV
  refine hK _ _ ?_;clear hK;(try clear K)
  generalize wa.setRow gb #[.int .i64 y.kind, .int .i64 y.level, .int .i64 y.block, .int .i64 y.row, .int .i64 y.seat, .int .i64 y.x, .int .i64 y.y, .int .i64 y.view, .int .i64 y.wth] = w13 at *

  have HBv : Hid (PlcIn w13 gb y) := HTW.out.2.1
  have HA13 := Lib.hid (HA.out.down HTW.out.1)
  have HB13 : Hid (Below w11.heap.size w11 w13) := HB12.out.trans (HTW.out.1.mono HB12.out.size)
  have HGb : Hid (w11.heap.size ≤ gb ∧ ga < gb) := ⟨Nat.le_trans HB12.out.size HTW.out.2.2, Nat.lt_of_lt_of_le (lt_of_block HA.out) HTW.out.2.2⟩
  clear HTW HA HB12 d0 d1 d2' d3 d4 d5 d6 d7 d8
  refine seq_cut (fun a' w' => FrF 154 [] [(5, .bool true), (6, .slice (some ⟨bp, op, none⟩) P.length c), (8, .int .i64 t), (12, .slice (some ⟨bq, oq, none⟩) Q.length c2'), (14, .int .i64 j), (16, .pointer (some ⟨ga, 0, none⟩)), (17, .pointer (some ⟨gb, 0, none⟩))] a' ∧ Hid (Below w11.heap.size w11 w' ∧ PlcIn w' ga z ∧ PlcIn w' gb z)) (fun KE hKE => ?_) ?_
  · obtain ⟨_, _, _, _, _, _, _, _, q8⟩ := HBv.out.cells
    refine wp_seq_k (fun K hK => ?_)
    by_cases htw : (t : Int) < y.wth
    · refine region_sk [0, 1, 2, 3] [] hF fun C hC => ?_;clear hF;refine zs1 17 rfl rfl ?_;refine zs1 142 rfl rfl ?_;refine zm rfl rfl rfl ?_;refine zs2 143 144 rfl rfl rfl ?_;refine hC _ (fun a hF => ?_);clear hC C;refine seq_end ?_;replace hF := hF.kp [5, 6, 8, 12, 14, 16, 17, 145] rfl;refine hK _ _ ?_;clear hK;(try clear K)
      refine cond_yes hF rfl ?_
      have hws : IntKind.i64.wrap (y.wth - 1) = y.wth - 1 := wrap_in (by omega) (by omega)
      have f8 := free_var (o := 8) HBv.out
      have HZ2 : Hid (PlcIn (w13.setCell ⟨gb, 8, none⟩ (.int .i64 (y.wth - 1))) gb z) := by
        have h1 := HBv.out.setW (y.wth - 1)
        have h2 : z = { y with wth := y.wth - 1 } := by
          rw [HZE.out]
          unfold decP
          rw [if_pos htw]
        show PlcIn _ _ _
        rw [h2]
        exact h1
      have HA2 : Hid (PlcIn (w13.setCell ⟨gb, 8, none⟩ (.int .i64 (y.wth - 1))) ga z) := (set_other (by have := HGb.out.2; omega)).trans HA13.out
      have HB2 : Hid (Below w11.heap.size w11 (w13.setCell ⟨gb, 8, none⟩ (.int .i64 (y.wth - 1)))) := HB13.out.trans (below_set HGb.out.1)
      refine region_sk [0, 1, 2, 3] [4] hF fun C hC => ?_;clear hF;refine zs1 17 rfl rfl ?_;refine zs1 146 rfl rfl ?_;refine zs1 147 rfl rfl ?_;refine zs1 17 rfl rfl ?_;refine hC _ (fun a hF => ?_);clear hC C;refine seq_one ?_;refine zu2 148 149 rfl rfl hF rfl rfl rfl ?_;clear hF;refine fun a hF => ?_;refine seq_end ?_;replace hF := hF.kp [5, 6, 8, 12, 14, 16, 17] rfl
      exact hKE _ _ ⟨hF, And.intro HB2.out (And.intro HA2.out HZ2.out)⟩
    · refine region_sk [0, 1, 2, 3] [] hF fun C hC => ?_;clear hF;refine zs1 17 rfl rfl ?_;refine zs1 142 rfl rfl ?_;refine zm rfl rfl rfl ?_;refine zs2 143 144 rfl rfl rfl ?_;refine hC _ (fun a hF => ?_);clear hC C;refine seq_end ?_;replace hF := hF.kp [5, 6, 8, 12, 14, 16, 17, 145] rfl;refine hK _ _ ?_;clear hK;(try clear K)
      refine cond_no hF rfl ?_
      refine wp_skip ?_
      have h2 : y = z := by
        rw [HZE.out]
        unfold decP
        rw [if_neg htw]
      rw [h2] at HBv
      exact hKE _ _ ⟨hF.sub ⟨rfl, rfl, rfl, rfl, rfl, rfl, rfl, trivial⟩, And.intro HB13.out (And.intro HA13.out HBv.out)⟩
  clear hF HZE HBv HA13 HB13 HGb hyb
  rintro a w14 ⟨hF, HW⟩
  obtain ⟨q0, q1, q2, q3, q4, q5, q6, q7, q8⟩ := HW.out.2.1.cells
  obtain ⟨u0, u1, u2, u3, u4, u5, u6, u7, u8⟩ := HW.out.2.2.cells
  have heq : ∀ wx, Sem.run Try.prog (binOp .neq 35 (.agg #[.int .i64 z.kind, .int .i64 z.level, .int .i64 z.block, .int .i64 z.row, .int .i64 z.seat, .int .i64 z.x, .int .i64 z.y, .int .i64 z.view, .int .i64 z.wth]) (.agg #[.int .i64 z.kind, .int .i64 z.level, .int .i64 z.block, .int .i64 z.row, .int .i64 z.seat, .int .i64 z.x, .int .i64 z.y, .int .i64 z.view, .int .i64 z.wth])) wx = .ok (.bool false) wx := fun wx => by
    rw [neq_plc]
    simp
  have hgd : ∀ wx op p q, Sem.run Try.prog (eqGuard op 35 p q (.agg #[.int .i64 z.kind, .int .i64 z.level, .int .i64 z.block, .int .i64 z.row, .int .i64 z.seat, .int .i64 z.x, .int .i64 z.y, .int .i64 z.view, .int .i64 z.wth]) (.agg #[.int .i64 z.kind, .int .i64 z.level, .int .i64 z.block, .int .i64 z.row, .int .i64 z.seat, .int .i64 z.x, .int .i64 z.y, .int .i64 z.view, .int .i64 z.wth])) wx = .ok () wx := fun wx op p q => guard_plc op p q z z wx
  refine wp_seq_k (fun K hK => ?_);refine region_sk [0, 1, 2] [] hF fun C hC => ?_;clear hF;refine zs1 16 rfl rfl ?_;refine zs1 17 rfl rfl ?_;refine zs2 150 151 rfl rfl rfl ?_;refine hC _ (fun a hF => ?_);clear hC C;refine seq_end ?_;replace hF := hF.kp [5, 6, 8, 12, 14, 152] rfl
  clear heq hgd q0 q1 q2 q3 q4 q5 q6 q7 q8 u0 u1 u2 u3 u4 u5 u6 u7 u8
  refine hK _ _ ?_;clear hK;(try clear K)
  refine cond_no hF rfl ?_
  refine wp_skip ?_
  exact hKC _ _ ⟨hF.sub ⟨rfl, rfl, rfl, rfl, rfl, trivial⟩, HW.out.1⟩
end Go.Proofs.Ytmcdhggnpfhlmaa
