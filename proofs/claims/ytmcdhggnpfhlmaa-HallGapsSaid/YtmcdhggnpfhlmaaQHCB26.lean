/- hall: places$1: a place of a row. -/
import Derived.Test.YtmcdhggnpfhlmaaQHCB25
import Derived.Laws.CopyOwn
import Derived.Laws.Tables

namespace Go.Proofs.Ytmcdhggnpfhlmaa
open Go.RowKit Go.IntWalk Go.Maps Go.WideMaps
set_option linter.unusedSimpArgs false
set_option linter.unusedVariables false

theorem Plc1.upd {w0 w w' : World} {h : HallR} {r : RowR} {n i k gn gi gk gr gh g3 gm M N N' : Nat} {out out' : List PlaceR} {f f' : Int → Int} (hp : Plc1 w0 h r n i k gn gi gk gr gh g3 gm M w out N f) (hb : Below w0.heap.size w0 w') (hk : KUpd (PlT M g3) w w') (ho : OutAt w0 w' g3 out') (hm : IMap w' M N' f') :
    Plc1 w0 h r n i k gn gi gk gr gh g3 gm M w' out' N' f' := by
  obtain ⟨es, c, hM⟩ := hp.map.blk
  obtain ⟨v, hv, _⟩ := hp.out.row
  have key : ∀ {b : Nat} {A : Array Value} {T : TypeId} {x : Nat × Nat}, w.heap[b]? = some (.cells A T x) → T ≠ 35 → T ≠ 29 → w'.heap[b]? = some (.cells A T x) := fun hh h1 h2 => hk.block _ _ hh (by
    rintro (rfl | rfl | ⟨arr, y, e⟩)
    · rw [hM] at hh; cases hh
    · rw [hv] at hh; cases hh; exact h2 rfl
    · cases e; exact h1 rfl)
  exact ⟨hb, key hp.cn (by decide) (by decide), key hp.ci (by decide) (by decide), key hp.ck (by decide) (by decide), key hp.row (by decide) (by decide), key hp.hall (by decide) (by decide), ho, hp.bm, key hp.mv (by decide) (by decide), hm⟩

/-- A cell of a block. -/
theorem set_in {w : World} {g o : Nat} {T : TypeId} {v : Value} {x : Nat × Nat} {arr : Array Value} (h : w.heap[g]? = some (.cells arr T x)) : (w.setCell ⟨g, o, none⟩ v).heap[g]? = some (.cells (arr.setIfInBounds o v) T x) := by
  simp [World.setCell, Array.getElem?_modify, h]

/-- A place of its own is changed. -/
theorem Plc1.own {w0 w : World} {h : HallR} {r : RowR} {n i k gn gi gk gr gh g3 gm M N gp o : Nat} {out : List PlaceR} {f : Int → Int} {A : Array Value} {u : Value} (hp : Plc1 w0 h r n i k gn gi gk gr gh g3 gm M w out N f) (hx : w.heap[gp]? = some (.cells A 35 (0, 0))) (hB : w0.heap.size ≤ gp)
    (hne : ∀ v, w.heap[g3]? = some (.cells #[v] 29 (0, 0)) → v.ownBlock ≠ some gp) :
    Plc1 w0 h r n i k gn gi gk gr gh g3 gm M (w.setCell ⟨gp, o, none⟩ u) out N f ∧ KUpd (PlT M g3) w (w.setCell ⟨gp, o, none⟩ u) ∧ ∀ v, (w.setCell ⟨gp, o, none⟩ u).heap[g3]? = some (.cells #[v] 29 (0, 0)) → v.ownBlock ≠ some gp := by
  have hk : KUpd (PlT M g3) w (w.setCell ⟨gp, o, none⟩ u) := KUpd.of_set hx (Or.inr (Or.inr ⟨_, _, rfl⟩))
  obtain ⟨es, c, hM⟩ := hp.map.blk
  obtain ⟨v, hv, ho⟩ := hp.out.row
  have hv' := set_keep (u := u) (o := o) hx hv (by decide)
  refine ⟨hp.upd (hp.below.trans (below_set hB)) hk ⟨hp.out.base, v, hv', row_of_heap ho fun b hb => Below.heap_setCell _ _ _ _ (fun e => hne v hv (by rw [hb]; simpa using e))⟩ (hp.map.heap (set_keep_map hx hM)), hk, fun v2 hv2 => ?_⟩
  rw [hv'] at hv2
  obtain rfl : v = v2 := by simpa using hv2
  exact hne v hv

set_option maxRecDepth 100000 in
set_option maxHeartbeats 16000000 in
theorem places1_any (w0 : World) (h : HallR) (l : LevR) (r : RowR) (n i k gn gi gk gr gh g3 gm M : Nat) (w : World) (out : List PlaceR) (N : Nat) (f : Int → Int) (s x : Int) (hp : Plc1 w0 h r n i k gn gi gk gr gh g3 gm M w out N f)
    (hh : h.In w0) (hl : h.levels[n]? = some l) (hpn : l.pn ≤ 100000) (hr : r.In w0) (hs : (Lit.int .i64 s).wf = true) (ho : out.length ≤ 900000) (hN : N ≤ 900000) :
    Calls Try.prog 64 #[.int .i64 s, .int .i64 x, .pointer (some ⟨gn, 0, none⟩), .pointer (some ⟨gi, 0, none⟩), .pointer (some ⟨gk, 0, none⟩), .pointer (some ⟨gr, 0, none⟩), .pointer (some ⟨gh, 0, none⟩), .pointer (some ⟨g3, 0, none⟩), .pointer (some ⟨gm, 0, none⟩)] w
      fun e w' => e = .returned (.tuple #[]) ∧ Plc1 w0 h r n i k gn gi gk gr gh g3 gm M w' (out ++ [seatPlace h l n i k r (s, x)]) (N + 1) (fun j => if j = s then (out.length : Int) else f j) ∧ KUpd (PlT M g3) w w' := by
  have HP := Lib.hid hp
  have HH := Lib.hid hh
  have HR := Lib.hid hr
  have HKR : Hid (KUpd (PlT M g3) w w) := KUpd.refl _ _
  have hvw : ∃ vw, viewS h.stage l ⟨x, r.y⟩ = vw := ⟨_, rfl⟩
  obtain ⟨vw, hvw⟩ := hvw
  have HVW := Lib.hid hvw
  have HVA : Hid (∀ wx, h.In wx → Calls Try.prog 65 #[.agg #[.string (bs h.name), .int .i64 h.stage.x, .int .i64 h.stage.y, .slice h.la h.ln h.lc], .int .i64 n, .agg #[.int .i64 x, .int .i64 r.y]] wx fun e w' => e = .returned (.int .i64 vw) ∧ Below wx.heap.size wx w') := fun wx hw => by
    rw [← hvw]
    exact view_any wx h n ⟨x, r.y⟩ hw l hl hpn
  clear hp hh hr hvw
  refine enter_fr (N := 51) [.int .i64 s, .int .i64 x, .pointer (some ⟨gn, 0, none⟩), .pointer (some ⟨gi, 0, none⟩), .pointer (some ⟨gk, 0, none⟩), .pointer (some ⟨gr, 0, none⟩), .pointer (some ⟨gh, 0, none⟩), .pointer (some ⟨g3, 0, none⟩), .pointer (some ⟨gm, 0, none⟩)] (Try.func64) rfl Try.ntmps64 (by rfl) (fun a hF => ?_);replace hF := hF.kp [0, 1, 2, 3, 4, 5, 6, 7, 8] rfl
  refine seq_cut (fun a' w' => ∃ gp, FrF 51 [] [(0, .int .i64 s), (5, .pointer (some ⟨gr, 0, none⟩)), (7, .pointer (some ⟨g3, 0, none⟩)), (8, .pointer (some ⟨gm, 0, none⟩)), (11, .pointer (some ⟨gp, 0, none⟩))] a' ∧ Hid (Plc1 w0 h r n i k gn gi gk gr gh g3 gm M w' out N f) ∧ Hid (w'.heap[gp]? = some (.cells #[.int .i64 0, .int .i64 n, .int .i64 i, .int .i64 k, .int .i64 s, .int .i64 x, .int .i64 r.y, .int .i64 vw, .int .i64 (-1)] 35 (0, 0))) ∧ Hid (KUpd (PlT M g3) w w') ∧ Hid (w0.heap.size ≤ gp) ∧ Hid (∀ v, w'.heap[g3]? = some (.cells #[v] 29 (0, 0)) → v.ownBlock ≠ some gp)) (fun KJ hKJ => ?_) ?_
  · have HPd : Hid (Plc1 w0 h r n i k gn gi gk gr gh g3 gm M w.drew out N f) := HP.out.down (below_d (Below.refl _ _))
    have HKd : Hid (KUpd (PlT M g3) w w.drew) := KUpd.of_below (below_d (Below.refl _ _))
    have HG3 : Hid (∀ w' gp, Below w.drew.heap.size w.drew w' → w.drew.heap.size ≤ gp → ∀ v, w'.heap[g3]? = some (.cells #[v] 29 (0, 0)) → v.ownBlock ≠ some gp) := fun w' gp hb hgp v hv e => by
      obtain ⟨v0, hv0, ho0⟩ := HPd.out.out.row
      rw [hb.block g3 (lt_of_block hv0), hv0] at hv
      obtain rfl : v0 = v := by simpa using hv
      have := (ho0.lt gp e).2
      omega
    have HST : Hid (∀ w', Below w.drew.heap.size w.drew w' → Below w.drew.heap.size w.drew w' ∧ w'.cell? ⟨gn, 0, none⟩ = some (.int .i64 n) ∧ w'.cell? ⟨gi, 0, none⟩ = some (.int .i64 i) ∧ w'.cell? ⟨gk, 0, none⟩ = some (.int .i64 k) ∧ w'.cell? ⟨gr, 2, none⟩ = some (.int .i64 r.y) ∧ w'.cell? ⟨gh, 0, none⟩ = some (.string (bs h.name)) ∧ w'.cell? ⟨gh, 1, none⟩ = some (.int .i64 h.stage.x) ∧ w'.cell? ⟨gh, 2, none⟩ = some (.int .i64 h.stage.y) ∧ w'.cell? ⟨gh, 3, none⟩ = some (.slice h.la h.ln h.lc)) := fun w' hb => ⟨hb, Below.cell_of hb (boxed_cell (j := 0) HPd.out.cn rfl), Below.cell_of hb (boxed_cell (j := 0) HPd.out.ci rfl), Below.cell_of hb (boxed_cell (j := 0) HPd.out.ck rfl), Below.cell_of hb HPd.out.row.cells.2.2.1, Below.cell_of hb HPd.out.hall.cells.1, Below.cell_of hb HPd.out.hall.cells.2.1, Below.cell_of hb HPd.out.hall.cells.2.2.1, Below.cell_of hb HPd.out.hall.cells.2.2.2⟩
    have HHd : Hid (h.In w.drew) := HH.out.below HPd.out.below
    clear HP HKR
    refine region_any (by kernel_rfl) ?_;generalize hwd : w.drew = wd at *;refine held_chain (fuel := 4) (fun w' => Below wd.heap.size wd w' ∧ w'.cell? ⟨gn, 0, none⟩ = some (.int .i64 n) ∧ w'.cell? ⟨gi, 0, none⟩ = some (.int .i64 i) ∧ w'.cell? ⟨gk, 0, none⟩ = some (.int .i64 k) ∧ w'.cell? ⟨gr, 2, none⟩ = some (.int .i64 r.y) ∧ w'.cell? ⟨gh, 0, none⟩ = some (.string (bs h.name)) ∧ w'.cell? ⟨gh, 1, none⟩ = some (.int .i64 h.stage.x) ∧ w'.cell? ⟨gh, 2, none⟩ = some (.int .i64 h.stage.y) ∧ w'.cell? ⟨gh, 3, none⟩ = some (.slice h.la h.ln h.lc)) [0, 1, 2, 3, 4, 5, 6, 7, 8, 9, 10, 11, 12] rfl (by kernel_rfl) (by kernel_rfl) hF (fun _ _ d _ _ h => by cases d <;> exact h) (HST.out _ (Below.refl _ _)) (fun C hC => ?_);clear hF;refine ChainH.step (v := ?_) rfl rfl rfl rfl ?_ ?_
    rotate_left
    · intro a hF w' hw
      have s2 := hF.slot 2 _ rfl
      obtain ⟨_, k1, k2, k3, k4, k5, k6, k7, k8⟩ := hw
      clear hF
      go_simp <;> with_reducible rfl
    refine ChainH.step (v := ?_) rfl rfl rfl rfl ?_ ?_
    rotate_left
    · intro a hF w' hw
      have s3 := hF.slot 3 _ rfl
      obtain ⟨_, k1, k2, k3, k4, k5, k6, k7, k8⟩ := hw
      clear hF
      go_simp <;> with_reducible rfl
    refine ChainH.step (v := ?_) rfl rfl rfl rfl ?_ ?_
    rotate_left
    · intro a hF w' hw
      have s4 := hF.slot 4 _ rfl
      obtain ⟨_, k1, k2, k3, k4, k5, k6, k7, k8⟩ := hw
      clear hF
      go_simp <;> with_reducible rfl
    refine ChainH.step (v := ?_) rfl rfl rfl rfl ?_ ?_
    rotate_left
    · intro a hF w' hw
      have s0 := hF.slot 0 _ rfl
      clear hw
      clear hF
      go_simp <;> with_reducible rfl
    refine ChainH.step (v := ?_) rfl rfl rfl rfl ?_ ?_
    rotate_left
    · intro a hF w' hw
      have s1 := hF.slot 1 _ rfl
      clear hw
      clear hF
      go_simp <;> with_reducible rfl
    refine ChainH.step (v := ?_) rfl rfl rfl rfl ?_ ?_
    rotate_left
    · intro a hF w' hw
      have s5 := hF.slot 5 _ rfl
      clear hw
      clear hF
      go_simp <;> with_reducible rfl
    refine ChainH.step (v := ?_) rfl rfl rfl rfl ?_ ?_
    rotate_left
    · intro a hF w' hw
      have s17 := hF.slot 17 _ rfl
      obtain ⟨_, k1, k2, k3, k4, k5, k6, k7, k8⟩ := hw
      clear hF
      go_simp <;> with_reducible rfl
    refine ChainH.step (v := ?_) rfl rfl rfl rfl ?_ ?_
    rotate_left
    · intro a hF w' hw
      have s6 := hF.slot 6 _ rfl
      obtain ⟨_, k1, k2, k3, k4, k5, k6, k7, k8⟩ := hw
      clear hF
      go_simp <;> with_reducible rfl
    refine ChainH.step (v := ?_) rfl rfl rfl rfl ?_ ?_
    rotate_left
    · intro a hF w' hw
      have s2 := hF.slot 2 _ rfl
      obtain ⟨_, k1, k2, k3, k4, k5, k6, k7, k8⟩ := hw
      clear hF
      go_simp <;> with_reducible rfl
    refine ChainH.step (v := ?_) rfl rfl rfl rfl ?_ ?_
    rotate_left
    · intro a hF w' hw
      have s1 := hF.slot 1 _ rfl
      clear hw
      clear hF
      go_simp <;> with_reducible rfl
    refine ChainH.step (v := ?_) rfl rfl rfl rfl ?_ ?_
    rotate_left
    · intro a hF w' hw
      have s5 := hF.slot 5 _ rfl
      clear hw
      clear hF
      go_simp <;> with_reducible rfl
    refine ChainH.step (v := ?_) rfl rfl rfl rfl ?_ ?_
    rotate_left
    · intro a hF w' hw
      have s22 := hF.slot 22 _ rfl
      obtain ⟨_, k1, k2, k3, k4, k5, k6, k7, k8⟩ := hw
      clear hF
      go_simp <;> with_reducible rfl
    refine ChainH.step (v := ?_) rfl rfl rfl rfl ?_ ?_
    rotate_left
    · intro a hF w' hw
      have s21 := hF.slot 21 _ rfl
      have s23 := hF.slot 23 _ rfl
      clear hw
      clear hF
      go_simp <;> with_reducible rfl
    refine hC _ (fun a hF => ?_);clear hC C;refine held_two (n := 13) (m := 15) (fuel := 3) (by kernel_rfl) ?_ ?_
    · clear hwd
      refine op_call [_, _, _] rfl rfl hF rfl (by kernel_rfl) ⟨rfl, rfl, rfl, trivial⟩ (fun K hK => ?_);clear hF
      refine (HVA.out wd HHd.out).mono ?_
      rintro e w1 ⟨rfl, hb1⟩
      refine hK _ _ (fun a hF => ⟨?_, ?_⟩)
      · intro _
        exact HST.out _ hb1
      clear hK K
      have hx1 : (w1.alloc (.cells #[.int .i64 0, .int .i64 0, .int .i64 0, .int .i64 0, .int .i64 0, .int .i64 0, .int .i64 0, .int .i64 0, .int .i64 0] 35)).heap[w1.heap.size]? = some (.cells #[.int .i64 0, .int .i64 0, .int .i64 0, .int .i64 0, .int .i64 0, .int .i64 0, .int .i64 0, .int .i64 0, .int .i64 0] 35 (0, 0)) := World.alloc_heap_new _ _
      have hbx := hb1.trans ((Joins.below_alloc1 w1 (.cells #[.int .i64 0, .int .i64 0, .int .i64 0, .int .i64 0, .int .i64 0, .int .i64 0, .int .i64 0, .int .i64 0, .int .i64 0] 35)).mono hb1.size)
      refine held_go (fuel := 2) [14] rfl (by kernel_rfl) (by kernel_rfl) hF (fun _ _ d _ _ h => by cases d <;> exact h) (HST.out _ hb1) (fun C hC => ?_);clear hF;refine ChainH.step (v := ?_) rfl rfl rfl rfl ?_ ?_
      rotate_left
      · intro a hF w' hw
        have s12 := hF.slot 12 _ rfl
        have s13 := hF.slot 13 _ rfl
        have s14 := hF.slot 14 _ rfl
        have s15 := hF.slot 15 _ rfl
        have s16 := hF.slot 16 _ rfl
        have s18 := hF.slot 18 _ rfl
        have s25 := hF.slot 25 _ rfl
        clear hw
        clear hF
        go_simp <;> with_reducible rfl
      refine hC _ (fun a hF => ?_);clear hC C;refine held_one (n := 15) (fuel := 1) (by kernel_rfl) ?_;refine ze0 rfl rfl rfl hF rfl ?_;clear hF;refine fun a hF => ⟨?_, ?_⟩
      · intro _
        exact HST.out _ hbx
      generalize w1.alloc (.cells #[.int .i64 0, .int .i64 0, .int .i64 0, .int .i64 0, .int .i64 0, .int .i64 0, .int .i64 0, .int .i64 0, .int .i64 0] 35) = w2 at *
      have hgp1 : wd.heap.size ≤ w1.heap.size := hb1.size
      obtain ⟨gp, hgp0⟩ : ∃ gp, gp = w1.heap.size := ⟨_, rfl⟩
      rw [← hgp0] at hF hgp1 hx1
      have hx := hx1
      have hgp := hgp1
      clear hgp0 hx1 hgp1 hb1
      have hSV := run_storeVar_row (P := Try.prog) w2 gp 35 35 #[.int .i64 0, .int .i64 0, .int .i64 0, .int .i64 0, .int .i64 0, .int .i64 0, .int .i64 0, .int .i64 0, .int .i64 0] #[.int .i64 0, .int .i64 n, .int .i64 i, .int .i64 k, .int .i64 s, .int .i64 x, .int .i64 r.y, .int .i64 vw, .int .i64 (-1)] hx (by kernel_rfl) rfl (by simp [Value.oneCell'])
      have hrow := setRow_heap w2 gp #[.int .i64 0, .int .i64 0, .int .i64 0, .int .i64 0, .int .i64 0, .int .i64 0, .int .i64 0, .int .i64 0, .int .i64 0] #[.int .i64 0, .int .i64 n, .int .i64 i, .int .i64 k, .int .i64 s, .int .i64 x, .int .i64 r.y, .int .i64 vw, .int .i64 (-1)] 35 (0, 0) hx
      have hbs : Below wd.heap.size wd (w2.setRow gp #[.int .i64 0, .int .i64 n, .int .i64 i, .int .i64 k, .int .i64 s, .int .i64 x, .int .i64 r.y, .int .i64 vw, .int .i64 (-1)]) := below_setRow hbx hgp #[.int .i64 0, .int .i64 n, .int .i64 i, .int .i64 k, .int .i64 s, .int .i64 x, .int .i64 r.y, .int .i64 vw, .int .i64 (-1)]
      have HFIN := Lib.hid (And.intro hrow (And.intro hbs hgp))
      clear hx hbx hrow hbs hgp
      refine held_one (n := 16) (fuel := 0) (by kernel_rfl) ?_;refine op_storev rfl rfl hF rfl rfl rfl rfl hSV ?_;clear hF;refine fun a hF => ⟨?_, ?_⟩
      · intro _
        exact HST.out _ HFIN.out.2.1
      clear hSV
      refine held_end (by kernel_rfl) ?_;replace hF := hF.kp [0, 5, 7, 8, 11] rfl
      exact hKJ _ _ ⟨gp, hF, HPd.out.down HFIN.out.2.1, HFIN.out.1, HKd.out.trans (KUpd.of_below HFIN.out.2.1), Nat.le_trans HPd.out.below.size HFIN.out.2.2, HG3.out _ _ HFIN.out.2.1 HFIN.out.2.2⟩
    · clear hwd
      refine ze0 rfl rfl rfl hF rfl ?_;clear hF;refine fun a hF => ⟨?_, ?_⟩
      · intro _
        exact HST.out _ (Joins.below_alloc1 wd _)
      have hbx := Joins.below_alloc1 wd (.cells #[.int .i64 0, .int .i64 0, .int .i64 0, .int .i64 0, .int .i64 0, .int .i64 0, .int .i64 0, .int .i64 0, .int .i64 0] 35)
      have hx0 : (wd.alloc (.cells #[.int .i64 0, .int .i64 0, .int .i64 0, .int .i64 0, .int .i64 0, .int .i64 0, .int .i64 0, .int .i64 0, .int .i64 0] 35)).heap[wd.heap.size]? = some (.cells #[.int .i64 0, .int .i64 0, .int .i64 0, .int .i64 0, .int .i64 0, .int .i64 0, .int .i64 0, .int .i64 0, .int .i64 0] 35 (0, 0)) := World.alloc_heap_new _ _
      generalize wd.alloc (.cells #[.int .i64 0, .int .i64 0, .int .i64 0, .int .i64 0, .int .i64 0, .int .i64 0, .int .i64 0, .int .i64 0, .int .i64 0] 35) = w1 at *
      obtain ⟨gp, hgp0⟩ : ∃ gp, gp = wd.heap.size := ⟨_, rfl⟩
      have hgp : wd.heap.size ≤ gp := by omega
      rw [← hgp0] at hF hx0
      clear hgp0
      refine held_one (n := 13) (fuel := 2) (by kernel_rfl) ?_;refine op_call [_, _, _] rfl rfl hF rfl (by kernel_rfl) ⟨rfl, rfl, rfl, trivial⟩ (fun K hK => ?_);clear hF
      refine (HVA.out w1 (HHd.out.below hbx)).mono ?_
      rintro e w2 ⟨rfl, hb2⟩
      have hb := hbx.trans (hb2.mono hbx.size)
      have hx := (hb2.block gp (lt_of_block hx0)).trans hx0
      clear hbx hx0 hb2
      refine hK _ _ (fun a hF => ⟨?_, ?_⟩)
      · intro _
        exact HST.out _ hb
      clear hK K
      have hSV := run_storeVar_row (P := Try.prog) w2 gp 35 35 #[.int .i64 0, .int .i64 0, .int .i64 0, .int .i64 0, .int .i64 0, .int .i64 0, .int .i64 0, .int .i64 0, .int .i64 0] #[.int .i64 0, .int .i64 n, .int .i64 i, .int .i64 k, .int .i64 s, .int .i64 x, .int .i64 r.y, .int .i64 vw, .int .i64 (-1)] hx (by kernel_rfl) rfl (by simp [Value.oneCell'])
      have hrow := setRow_heap w2 gp #[.int .i64 0, .int .i64 0, .int .i64 0, .int .i64 0, .int .i64 0, .int .i64 0, .int .i64 0, .int .i64 0, .int .i64 0] #[.int .i64 0, .int .i64 n, .int .i64 i, .int .i64 k, .int .i64 s, .int .i64 x, .int .i64 r.y, .int .i64 vw, .int .i64 (-1)] 35 (0, 0) hx
      have hbs : Below wd.heap.size wd (w2.setRow gp #[.int .i64 0, .int .i64 n, .int .i64 i, .int .i64 k, .int .i64 s, .int .i64 x, .int .i64 r.y, .int .i64 vw, .int .i64 (-1)]) := below_setRow hb hgp #[.int .i64 0, .int .i64 n, .int .i64 i, .int .i64 k, .int .i64 s, .int .i64 x, .int .i64 r.y, .int .i64 vw, .int .i64 (-1)]
      have HFIN := Lib.hid (And.intro hrow (And.intro hbs hgp))
      have HSB := Lib.hid (HST.out _ hb)
      clear hx hb hrow hbs hgp
      refine held_go (fuel := 1) [14] rfl (by kernel_rfl) (by kernel_rfl) hF (fun _ _ d _ _ h => by cases d <;> exact h) HSB.out (fun C hC => ?_);clear hF;refine ChainH.step (v := ?_) rfl rfl rfl rfl ?_ ?_
      rotate_left
      · intro a hF w' hw
        have s12 := hF.slot 12 _ rfl
        have s13 := hF.slot 13 _ rfl
        have s14 := hF.slot 14 _ rfl
        have s15 := hF.slot 15 _ rfl
        have s16 := hF.slot 16 _ rfl
        have s18 := hF.slot 18 _ rfl
        have s25 := hF.slot 25 _ rfl
        clear hw
        clear hF
        go_simp <;> with_reducible rfl
      refine hC _ (fun a hF => ?_);clear hC C;refine held_one (n := 16) (fuel := 0) (by kernel_rfl) ?_;refine op_storev rfl rfl hF rfl rfl rfl rfl hSV ?_;clear hF;refine fun a hF => ⟨?_, ?_⟩
      · intro _
        exact HST.out _ HFIN.out.2.1
      clear hSV
      refine held_end (by kernel_rfl) ?_;replace hF := hF.kp [0, 5, 7, 8, 11] rfl
      exact hKJ _ _ ⟨gp, hF, HPd.out.down HFIN.out.2.1, HFIN.out.1, HKd.out.trans (KUpd.of_below HFIN.out.2.1), Nat.le_trans HPd.out.below.size HFIN.out.2.2, HG3.out _ _ HFIN.out.2.1 HFIN.out.2.2⟩
  clear HP HKR HVA hF
  rintro a w1 ⟨gp, hF, HP, HX, HK, HGP, HNE⟩
  have HSP : Hid (seatPlace h l n i k r (s, x) = ⟨kindS (markS r.marks s).kind, n, i, k, s, x, r.y, if (markS r.marks s).kind = 3 then max vw 2 else vw, -1⟩) := by
    show _ = _
    unfold seatPlace
    rw [HVW.out]
  refine seq_cut (fun a' w' => FrF 51 [] [(0, .int .i64 s), (7, .pointer (some ⟨g3, 0, none⟩)), (8, .pointer (some ⟨gm, 0, none⟩)), (11, .pointer (some ⟨gp, 0, none⟩))] a' ∧ Hid (Plc1 w0 h r n i k gn gi gk gr gh g3 gm M w' out N f) ∧ Hid (PlcIn w' gp (seatPlace h l n i k r (s, x))) ∧ Hid (KUpd (PlT M g3) w w') ∧ Hid (w0.heap.size ≤ gp) ∧ Hid (∀ v, w'.heap[g3]? = some (.cells #[v] 29 (0, 0)) → v.ownBlock ≠ some gp)) (fun KJ hKJ => ?_) ?_
  · rw [HSP.out] at hKJ
    obtain ⟨q0, q1, q2, q3, q4, q5, q6, q7⟩ := HP.out.row.cells
    have hfm := run_field_mark
    refine wp_seq_k (fun K hK => ?_);refine region_sk [0, 1] [2, 3] hF fun C hC => ?_;clear hF;refine zs1 5 rfl rfl ?_;refine zm rfl rfl rfl ?_;refine hC _ (fun a hF => ?_);clear hC C;refine seq_one ?_;refine op_call [_, _] rfl rfl hF rfl (by kernel_rfl) ⟨rfl, rfl, trivial⟩ (fun K hK => ?_);clear hF
    refine (mark_any w1 r s (HR.out.below HP.out.below)).mono ?_
    rintro e w2 ⟨rfl, hb2⟩
    have HP2 := Lib.hid (HP.out.down hb2)
    have HX2 := Lib.hid ((hb2.block gp (lt_of_block HX.out)).trans HX.out)
    have HK2 : Hid (KUpd (PlT M g3) w w2) := HK.out.trans (KUpd.of_below hb2)
    have HNE2 : Hid (∀ v, w2.heap[g3]? = some (.cells #[v] 29 (0, 0)) → v.ownBlock ≠ some gp) := fun v hv => by
      obtain ⟨v0, hv0, _⟩ := HP.out.out.row
      rw [hb2.block g3 (lt_of_block hv0)] at hv
      exact HNE.out v hv
    clear q0 q1 q2 q3 q4 q5 q6 q7 HP HX HK HNE hb2 HSP
    generalize (markS r.marks s).kind = mk at *
    refine hK _ _ (fun a hF => ?_);clear hK K;refine seq_ck [3] [] hF fun C hC => ?_;clear hF;refine zs1 29 rfl rfl ?_;refine hC _ (fun a hF => ?_);clear hC C;refine seq_end ?_;replace hF := hF.kp [0, 7, 8, 11, 30] rfl;refine hK _ _ ?_;clear hK;(try clear K)
    clear hfm
    refine wp_block ?_
    refine wp_seq_k (fun K hK => ?_)
    by_cases h3 : mk = 3
    · have b3 : (mk == 3) = true := by simp [h3]
      have HE : Hid (((⟨kindS mk, n, i, k, s, x, r.y, if mk = 3 then max vw 2 else vw, -1⟩ : PlaceR)) = ⟨0, n, i, k, s, x, r.y, max vw 2, -1⟩) := by
        subst h3
        rfl
      rw [HE.out] at hKJ
      clear h3 HE
      refine region_sk [0, 1] [] hF fun C hC => ?_;clear hF;refine zs1 30 rfl rfl ?_;refine za rfl rfl rfl ?_;refine hC _ (fun a hF => ?_);clear hC C;refine seq_end ?_;replace hF := hF.kp [0, 7, 8, 11, 30, 31] rfl;refine hK _ _ ?_;clear hK;(try clear K)
      refine cond_yes hF rfl ?_
      have c7 : w2.cell? ⟨gp, 7, none⟩ = some (.int .i64 vw) := boxed_cell (j := 7) HX2.out rfl
      have f7 := free_var (o := 7) HX2.out
      refine region_sk [0, 1, 2, 3] [4] hF fun C hC => ?_;clear hF;refine zs1 11 rfl rfl ?_;refine zs1 33 rfl rfl ?_;refine zs1 34 rfl rfl ?_;refine zs1 11 rfl rfl ?_;refine hC _ (fun a hF => ?_);clear hC C;refine seq_one ?_;refine zu2 35 36 rfl rfl hF rfl rfl rfl ?_;clear hF;refine fun a hF => ?_;refine seq_end ?_;replace hF := hF.kp [0, 7, 8, 11] rfl
      obtain ⟨hp3, hk3, hn3⟩ := HP2.out.own (o := 7) (u := .int .i64 (max vw 2)) HX2.out HGP.out HNE2.out
      exact hKJ _ _ ⟨hF, hp3, set_in HX2.out, HK2.out.trans hk3, HGP, hn3⟩
    have b3 : (mk == 3) = false := by simp [h3]
    rw [if_neg h3] at hKJ
    refine region_sk [0, 1] [] hF fun C hC => ?_;clear hF;refine zs1 30 rfl rfl ?_;refine za rfl rfl rfl ?_;refine hC _ (fun a hF => ?_);clear hC C;refine seq_end ?_;replace hF := hF.kp [0, 7, 8, 11, 30, 31] rfl;refine hK _ _ ?_;clear hK;(try clear K)
    refine cond_no hF rfl ?_
    clear b3
    refine wp_seq_k (fun K hK => ?_)
    by_cases h2 : mk = 2
    · have b2 : (mk == 2) = true := by simp [h2]
      have HE : Hid (kindS mk = 1) := by
        subst h2
        rfl
      rw [HE.out] at hKJ
      clear h2 h3 HE
      refine region_sk [0, 1] [] hF fun C hC => ?_;clear hF;refine zs1 30 rfl rfl ?_;refine za rfl rfl rfl ?_;refine hC _ (fun a hF => ?_);clear hC C;refine seq_end ?_;replace hF := hF.kp [0, 7, 8, 11, 30, 37] rfl;refine hK _ _ ?_;clear hK;(try clear K)
      refine cond_yes hF rfl ?_
      have c0 : w2.cell? ⟨gp, 0, none⟩ = some (.int .i64 0) := boxed_cell (j := 0) HX2.out rfl
      have f0 := free_var (o := 0) HX2.out
      refine region_sk [0] [1] hF fun C hC => ?_;clear hF;refine zs1 11 rfl rfl ?_;refine hC _ (fun a hF => ?_);clear hC C;refine seq_one ?_;refine zu1 39 rfl rfl hF rfl rfl ?_;clear hF;refine fun a hF => ?_;refine seq_end ?_;replace hF := hF.kp [0, 7, 8, 11] rfl
      obtain ⟨hp3, hk3, hn3⟩ := HP2.out.own (o := 0) (u := .int .i64 1) HX2.out HGP.out HNE2.out
      exact hKJ _ _ ⟨hF, hp3, set_in HX2.out, HK2.out.trans hk3, HGP, hn3⟩
    have b2 : (mk == 2) = false := by simp [h2]
    refine region_sk [0, 1] [] hF fun C hC => ?_;clear hF;refine zs1 30 rfl rfl ?_;refine za rfl rfl rfl ?_;refine hC _ (fun a hF => ?_);clear hC C;refine seq_end ?_;replace hF := hF.kp [0, 7, 8, 11, 30, 37] rfl;refine hK _ _ ?_;clear hK;(try clear K)
    refine cond_no hF rfl ?_
    clear b2
    refine wp_seq_k (fun K hK => ?_)
    by_cases h4 : mk = 4
    · have b4 : (mk == 4) = true := by simp [h4]
      have HE : Hid (kindS mk = 2) := by
        subst h4
        rfl
      rw [HE.out] at hKJ
      clear h2 h3 h4 HE
      refine region_sk [0, 1] [] hF fun C hC => ?_;clear hF;refine zs1 30 rfl rfl ?_;refine za rfl rfl rfl ?_;refine hC _ (fun a hF => ?_);clear hC C;refine seq_end ?_;replace hF := hF.kp [0, 7, 8, 11, 40] rfl;refine hK _ _ ?_;clear hK;(try clear K)
      refine cond_yes hF rfl ?_
      have c0 : w2.cell? ⟨gp, 0, none⟩ = some (.int .i64 0) := boxed_cell (j := 0) HX2.out rfl
      have f0 := free_var (o := 0) HX2.out
      refine region_sk [0] [1] hF fun C hC => ?_;clear hF;refine zs1 11 rfl rfl ?_;refine hC _ (fun a hF => ?_);clear hC C;refine seq_one ?_;refine zu1 42 rfl rfl hF rfl rfl ?_;clear hF;refine fun a hF => ?_;refine seq_end ?_;replace hF := hF.kp [0, 7, 8, 11] rfl
      obtain ⟨hp3, hk3, hn3⟩ := HP2.out.own (o := 0) (u := .int .i64 2) HX2.out HGP.out HNE2.out
      exact hKJ _ _ ⟨hF, hp3, set_in HX2.out, HK2.out.trans hk3, HGP, hn3⟩
    have b4 : (mk == 4) = false := by simp [h4]
    have HE : Hid (kindS mk = 0) := by
      show kindS mk = 0
      unfold kindS
      rw [if_neg h2, if_neg h4]
    rw [HE.out] at hKJ
    clear h2 h3 h4 HE
    refine region_sk [0, 1] [] hF fun C hC => ?_;clear hF;refine zs1 30 rfl rfl ?_;refine za rfl rfl rfl ?_;refine hC _ (fun a hF => ?_);clear hC C;refine seq_end ?_;replace hF := hF.kp [0, 7, 8, 11, 40] rfl;refine hK _ _ ?_;clear hK;(try clear K)
    refine cond_no hF rfl ?_
    refine wp_skip ?_
    exact hKJ _ _ ⟨hF.sub ⟨rfl, rfl, rfl, rfl, trivial⟩, HP2, HX2, HK2, HGP, HNE2⟩
  clear hF HP HX HK HNE HSP HVW HGP
  rintro a w2 ⟨hF, HP, HX, HK, HGP, HNE⟩
  generalize seatPlace h l n i k r (s, x) = pl at *
  -- at[s] = len(out)
  obtain ⟨ov, hov, horow⟩ := HP.out.out.row
  obtain ⟨la, lc, rfl, _⟩ := OwnRecs.of_row horow
  have cm : w2.cell? ⟨gm, 0, none⟩ = some (.map (some M)) := boxed_cell (j := 0) HP.out.mv rfl
  have co : w2.cell? ⟨g3, 0, none⟩ = some (.slice la out.length lc) := boxed_cell (j := 0) hov rfl
  obtain ⟨w3, hMU, hm3, hg3⟩ := HP.out.map.set (k := s) hs (by omega) (out.length : Int)
  obtain ⟨es, cc, hMb⟩ := HP.out.map.blk
  have hkM : KUpd (PlT M g3) w2 w3 := KUpd.of_grown hg3 fun b o e _ => Or.inl (by simpa using e.symm)
  have hbl3 : Below w0.heap.size w0 w3 := HP.out.below.grown hg3 HP.out.below.size (fun b e => by
    have : b = M := by simpa using e.symm
    rw [this]; exact HP.out.bm)
  have hcell3 : ∀ {b : Nat} {A : Array Value} {T : TypeId} {x : Nat × Nat}, w2.heap[b]? = some (.cells A T x) → w3.heap[b]? = some (.cells A T x) := fun {b A T x} hh => (hg3.block b (lt_of_block hh) (fun e => by
    have e2 : b = M := by simpa using e
    rw [e2, hMb] at hh
    cases hh)).trans hh
  have hrow3 := row_of_heap horow fun b hb => by
    obtain ⟨cur, hh⟩ := own_type horow hb
    exact (hcell3 hh).trans hh.symm
  have HP3 := Lib.hid (HP.out.upd hbl3 hkM ⟨HP.out.out.base, _, hcell3 hov, hrow3⟩ hm3)
  have HOV3 := Lib.hid (hcell3 hov)
  have HROW3 := Lib.hid hrow3
  have HX3 : Hid (PlcIn w3 gp pl) := hcell3 HX.out
  have HK3 : Hid (KUpd (PlT M g3) w w3) := HK.out.trans hkM
  have HNEQ : Hid ((.slice la out.length lc : Value).ownBlock ≠ some gp) := HNE.out _ hov
  clear hm3 hg3 hMb hkM hbl3 hcell3 hrow3 hov horow HP HX HK HNE
  refine wp_seq_k (fun K hK => ?_);refine region_sk [0, 1, 2, 3] [4] hF fun C hC => ?_;clear hF;refine zs1 8 rfl rfl ?_;refine zm rfl rfl rfl ?_;refine zs1 7 rfl rfl ?_;refine zs1 45 rfl rfl ?_;refine hC _ (fun a hF => ?_);clear hC C;refine seq_one ?_;refine zu3 43 44 46 rfl rfl hF rfl rfl rfl rfl ?_;clear hF;refine fun a hF => ?_;refine seq_end ?_;replace hF := hF.kp [7, 11] rfl
  clear hMU cm co
  refine hK _ _ ?_;clear hK;(try clear K)
  have co : w3.cell? ⟨g3, 0, none⟩ = some (.slice la out.length lc) := boxed_cell (j := 0) HOV3.out rfl
  obtain ⟨p0, p1, p2, p3, p4, p5, p6, p7, p8⟩ := HX3.out.cells
  refine region_sk [0, 1] [2, 3, 4] hF fun C hC => ?_;clear hF;refine zs1 7 rfl rfl ?_;refine zs1 11 rfl rfl ?_;refine hC _ (fun a hF => ?_);clear hC C;refine seq_one ?_;refine ze1 48 rfl rfl rfl hF rfl rfl ?_;clear hF;refine fun a hF => ?_
  have HNR := Lib.hid (recs_alloc PlaceE w3 35 [pl] #[.int .i64 pl.kind, .int .i64 pl.level, .int .i64 pl.block, .int .i64 pl.row, .int .i64 pl.seat, .int .i64 pl.x, .int .i64 pl.y, .int .i64 pl.view, .int .i64 pl.wth] rfl)
  have HBa := Lib.hid (Joins.below_alloc1 w3 (.cells #[.int .i64 pl.kind, .int .i64 pl.level, .int .i64 pl.block, .int .i64 pl.row, .int .i64 pl.seat, .int .i64 pl.x, .int .i64 pl.y, .int .i64 pl.view, .int .i64 pl.wth] 35))
  have HP4 := Lib.hid (HP3.out.down HBa.out)
  have HOV4 := Lib.hid ((HBa.out.block g3 (lt_of_block HOV3.out)).trans HOV3.out)
  have HROW4 := Lib.hid (row_of_heap HROW3.out fun b hb => HBa.out.block b (HROW3.out.lt b hb).2)
  have HK4 : Hid (KUpd (PlT M g3) w (w3.alloc (.cells #[.int .i64 pl.kind, .int .i64 pl.level, .int .i64 pl.block, .int .i64 pl.row, .int .i64 pl.seat, .int .i64 pl.x, .int .i64 pl.y, .int .i64 pl.view, .int .i64 pl.wth] 35))) := HK3.out.trans (KUpd.of_below HBa.out)
  clear p0 p1 p2 p3 p4 p5 p6 p7 p8 co HP3 HX3 HK3 HBa
  generalize w3.alloc (.cells #[.int .i64 pl.kind, .int .i64 pl.level, .int .i64 pl.block, .int .i64 pl.row, .int .i64 pl.seat, .int .i64 pl.x, .int .i64 pl.y, .int .i64 pl.view, .int .i64 pl.wth] 35) = w4 at *
  obtain ⟨v', w5, hAPP, ho, hg, _⟩ := append_recs (E := PlaceE) 29 35 29 Try.underlying29 info_place rfl (by decide) HROW4.out (u := .slice (some ⟨w3.heap.size, 0, none⟩) 1 1) ⟨_, _, rfl, HNR.out, fun h => by cases h⟩ (by simp; omega) HP4.out.below.size
  obtain ⟨la4, lc4, rfl, _⟩ := OwnRecs.of_row ho
  have hkeep : ∀ {b : Nat} {A : Array Value} {T : TypeId} {x : Nat × Nat}, w4.heap[b]? = some (.cells A T x) → T ≠ 35 → w5.heap[b]? = some (.cells A T x) := fun hb hT => (hg.block _ (lt_of_block hb) (fun e => by
    obtain ⟨cur, hh⟩ := own_type HROW4.out e.symm
    exact type_ne hb hh hT rfl)).trans hb
  have hR5 := hkeep HOV4.out (by decide)
  obtain ⟨es, cc, hMb⟩ := HP4.out.map.blk
  have hM5 : w5.heap[M]? = w4.heap[M]? := hg.block M (lt_of_block hMb) (fun e => row_ne_map HROW4.out hMb e.symm)
  have c6 : w5.cell? ⟨g3, 0, none⟩ = some (.slice la out.length lc) := boxed_cell (j := 0) hR5 rfl
  have f6 := free_var (o := 0) hR5
  have hk5 : KUpd (PlT M g3) w4 w5 := KUpd.of_grown hg fun b o e hb => by
    obtain ⟨cur, hh⟩ := own_type HROW4.out e
    rw [hb] at hh
    cases hh
    exact Or.inr (Or.inr ⟨_, _, rfl⟩)
  have hb5 : Below w0.heap.size w0 w5 := HP4.out.below.grown hg HP4.out.below.size (fun k hk => (HROW4.out.lt k hk).1)
  have hk6 : KUpd (PlT M g3) w4 (w5.setCell ⟨g3, 0, none⟩ (.slice la4 (out.length + [pl].length) lc4)) := hk5.trans (KUpd.of_set hR5 (Or.inr (Or.inl rfl)))
  have hOUT : OutAt w0 (w5.setCell ⟨g3, 0, none⟩ (.slice la4 (out.length + [pl].length) lc4)) g3 (out ++ [pl]) := ⟨HP4.out.out.base, _, set_var hR5, by
    rw [List.length_append]
    refine row_of_heap ho fun b hb => ?_
    obtain ⟨cur, hh⟩ := own_type ho hb
    rw [set_keep hR5 hh (by decide), hh]⟩
  have HFIN := Lib.hid (HP4.out.upd (hb5.trans (below_set HP4.out.out.base)) hk6 hOUT (HP4.out.map.heap (by rw [set_keep_map hR5 (hM5.trans hMb), hM5])))
  have HKF : Hid (KUpd (PlT M g3) w (w5.setCell ⟨g3, 0, none⟩ (.slice la4 (out.length + [pl].length) lc4))) := HK4.out.trans hk6
  clear ho hg hkeep hR5 hMb hM5 hk5 hb5 hk6 hOUT HP4 HOV4 HROW4 HK4 HNR HOV3 HROW3
  refine seq_one ?_;refine op_append rfl rfl rfl rfl rfl hF rfl rfl rfl hAPP (fun a hF => ?_);clear hAPP;refine seq_one ?_;refine zu2 7 50 rfl rfl hF rfl rfl rfl ?_;clear hF;refine fun a hF => ?_
  clear c6 f6
  refine seq_end ?_;replace hF := hF.kp [] rfl;(try simp only [then_exit, block_exit, block_norm, goto_norm, ↓reduceIte, Nat.reduceEqDiff]);refine end_fr (fn := Try.f64) (rs := []) rfl [] hF trivial ?_
  exact ⟨rfl, HFIN.out, HKF.out⟩
end Go.Proofs.Ytmcdhggnpfhlmaa
