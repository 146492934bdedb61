/- merge: foyerref38.Blames: the walk. -/
import Derived.Test.YtpmoelkblngamaaQMMR42
import Derived.Test.YtpmoelkblngamaaQMMR43

namespace Go.Proofs.Ytpmoelkblngamaa
open Go.RowKit Go.IntWalk Go.Maps Go.WideMaps
set_option linter.unusedSimpArgs false
set_option linter.unusedVariables false

theorem wrap_in {x : Int} (h1 : -9223372036854775808 ≤ x) (h2 : x ≤ 9223372036854775807) : IntKind.i64.wrap x = x := i64_in x ⟨h1, h2⟩
theorem wrap_succ {i : Nat} (h : i ≤ 1000000) : IntKind.i64.wrap ((i : Int) + 1) = ((i + 1 : Nat) : Int) := by
  rw [wrap_in (by omega) (by omega)]
  omega

/-- The scan at hand lies in its block. -/
def XIn (w : World) (gx : Nat) (x : Scn) : Prop := w.heap[gx]? = some (.cells #[.int .i64 x.gate, .int .i64 x.number, .int .i64 x.time, .int .i64 x.serial, .int .i64 x.kind, .string (bs x.owner)] 39 (0, 0))
theorem XIn.cells {w : World} {gx : Nat} {x : Scn} (h : XIn w gx x) : w.cell? ⟨gx, 0, none⟩ = some (.int .i64 x.gate) ∧ w.cell? ⟨gx, 1, none⟩ = some (.int .i64 x.number) ∧ w.cell? ⟨gx, 2, none⟩ = some (.int .i64 x.time) ∧ w.cell? ⟨gx, 3, none⟩ = some (.int .i64 x.serial) ∧ w.cell? ⟨gx, 4, none⟩ = some (.int .i64 x.kind) :=
  ⟨cell_of_row (j := 0) _ _ _ _ _ h, cell_of_row (j := 1) _ _ _ _ _ h, cell_of_row (j := 2) _ _ _ _ _ h, cell_of_row (j := 3) _ _ _ _ _ h, cell_of_row (j := 4) _ _ _ _ _ h⟩
theorem XIn.down {w w' : World} {gx : Nat} {x : Scn} (h : XIn w gx x) (hb : Below w.heap.size w w') : XIn w' gx x := (hb.block gx (lt_of_block h)).trans h

/-- What the greatest number of a gate is so far. -/
def IsMost (X : List Scn) (s : Scn) (k : Nat) (most : Int) : Prop :=
  s.number ≤ most ∧ (most = s.number ∨ ∃ (j : Nat) (hj : j < X.length), j < k ∧ X[j].gate = s.gate ∧ X[j].number = most) ∧ ∀ j (hj : j < X.length), j < k → X[j].gate = s.gate → X[j].number ≤ most
theorem most_start {X : List Scn} {i : Nat} (h : i < X.length) : IsMost X X[i] 0 X[i].number := ⟨Int.le_refl _, Or.inl rfl, fun j _ hj => absurd hj (Nat.not_lt_zero _)⟩
theorem most_next {X : List Scn} {s : Scn} {k : Nat} {most : Int} (hk : k < X.length) (h : IsMost X s k most) : (X[k].gate = s.gate → IsMost X s (k + 1) (max most X[k].number)) ∧ (X[k].gate ≠ s.gate → IsMost X s (k + 1) most) := by
  obtain ⟨h1, h2, h3⟩ := h
  refine ⟨fun hg => ⟨by omega, ?_, fun j hj hjk hjg => ?_⟩, fun hg => ⟨h1, ?_, fun j hj hjk hjg => ?_⟩⟩
  · by_cases hm : X[k].number ≤ most
    · rw [show max most X[k].number = most from by omega]
      exact h2.imp id fun ⟨j, hj, a, b, c⟩ => ⟨j, hj, by omega, b, c⟩
    · exact Or.inr ⟨k, hk, by omega, hg, by omega⟩
  · by_cases e : j = k
    · subst e; omega
    · have := h3 j hj (by omega) hjg
      omega
  · exact h2.imp id fun ⟨j, hj, a, b, c⟩ => ⟨j, hj, by omega, b, c⟩
  · by_cases e : j = k
    · subst e; exact absurd hjg hg
    · exact h3 j hj (by omega) hjg
theorem most_iff {X : List Scn} {i : Nat} {most : Int} (hi : i < X.length) (h : IsMost X X[i] X.length most) : (∀ u ∈ X, u.gate = X[i].gate → u.number ≤ X[i].number) ↔ X[i].number = most := by
  obtain ⟨h1, h2, h3⟩ := h
  constructor
  · intro h
    rcases h2 with e | ⟨j, hj, _, hg, hn⟩
    · exact e.symm
    · have := h X[j] (List.getElem_mem hj) hg
      omega
  · intro e u hu hg
    obtain ⟨j, hj, rfl⟩ := List.getElem_of_mem hu
    rw [e]
    exact h3 j hj hj hg

theorem row_down {w : World} {A B k n : Nat} {T : TypeId} {v : Value} {xs : List Value} (hAB : A ≤ B) (h : w.ownsRow B T k v n xs) : w.ownsRow A T k v n xs := by
  refine ⟨h.1, ?_⟩
  rcases h.2 with h0 | ⟨g, cap, cur, rfl, hb, r⟩
  · exact Or.inl h0
  · exact Or.inr ⟨g, cap, cur, rfl, Nat.le_trans hAB hb, r⟩

theorem below_d {n : Nat} {w w' : World} (h : Below n w w') : Below n w w'.drew := below_drewN h 1

set_option maxRecDepth 100000 in
set_option maxHeartbeats 40000000 in
theorem rblames_any (w : World) (la : Option Addr) (n c : Nat) (l : List Scn) (ga : Option Addr) (gn gc : Nat) (gone : List GoR) (stale : Int) (h : Recs ScnE w la n l) (hn : n ≤ 1000) (hmn : (mergeS l).length ≤ 100) (hg : Recs GoE w ga gn gone) (hgn : gn ≤ 1000) :
    Calls Try.prog 18 #[.slice la n c, .slice ga gn gc, .int .i64 stale] w fun e w' => ∃ v, e = .returned v ∧ w'.ownsRow w.heap.size 48 6 v (blamesS (goneOf gone) stale l).length (flat BlmE (blamesS (goneOf gone) stale l)) ∧ Below w.heap.size w w' := by
  have HG := Lib.hid hg
  clear hg
  refine enter_fr (N := 333) [.slice la n c, .slice ga gn gc, .int .i64 stale] (Try.func18) rfl Try.ntmps18 (by rfl) (fun a hF => ?_)
  replace hF := hF.sub (e' := [(0, _), (1, _), (2, _)]) ⟨rfl, rfl, rfl, trivial⟩
  refine wp_seq_k (fun K hK => ?_)
  refine region_seq (l := [0]) (by kernel_rfl) ?_
  refine seq_chain [(0, true)] [] rfl hF (fun C hC => ?_)
  clear hF
  refine Chain.assign rfl rfl rfl rfl rfl rfl ?_
  refine hC _ (fun a hF => ?_)
  clear hC C
  refine seq_end ?_
  replace hF := hF.sub (e' := [(0, _), (1, _), (2, _)]) ⟨rfl, rfl, rfl, trivial⟩
  refine hK _ _ ?_
  clear hK K
  refine wp_seq_k (fun K hK => ?_)
  refine region_seq (l := [0, 1, 2]) (by kernel_rfl) ?_
  refine seq_chain [(0, true)] [1, 2] rfl hF (fun C hC => ?_)
  clear hF
  refine Chain.move rfl rfl rfl rfl rfl rfl ?_
  refine hC _ (fun a hF => ?_)
  clear hC C
  refine seq_one ?_
  refine op_call [_] rfl rfl hF rfl (by kernel_rfl) ⟨rfl, trivial⟩ (fun K hK => ?_)
  clear hF
  refine (rscans_any w la n c l h hn).mono ?_
  rintro e w1 ⟨v1, rfl, ho, hb⟩
  clear h
  obtain ⟨xa, xc, rfl, _, _, _, hxr⟩ := row_slice ho
  have HX := Lib.hid hxr
  have HB1 := Lib.hid hb
  have HG1 := Lib.hid (HG.out.below hb)
  have HPL : Hid (∀ b, b ∈ blamesS (goneOf gone) stale l ↔ (∃ i, i < (mergeS l).length ∧ PA1 (goneOf gone) (staleN stale) (mergeS l) i b) ∨ ∃ i, i < (mergeS l).length ∧ P4 (mergeS l) i b) := fun b => blames_mem.trans refBl_places
  have HSB := Lib.hid (blames_is (goneOf gone) stale l).1
  obtain ⟨X, hX⟩ : ∃ X, X = mergeS l := ⟨_, rfl⟩
  rw [← hX] at HX hmn HPL ⊢
  clear hX ho hxr hb HG
  have hst0 : 0 ≤ staleN stale := by unfold staleN; omega
  have hst1 : staleN stale ≤ 1000000000 := by unfold staleN; omega
  have hsm : max 0 (min stale 1000000000) = staleN stale := rfl
  obtain ⟨st, hst⟩ : ∃ st, st = staleN stale := ⟨_, rfl⟩
  rw [← hst] at HPL hst0 hst1 hsm
  clear hst
  obtain ⟨G, hG⟩ : ∃ G, G = goneOf gone := ⟨_, rfl⟩
  have HGD := Lib.hid hG
  rw [← hG] at HPL
  clear hG
  refine hK _ _ (fun a hF => ?_)
  clear hK K
  refine seq_chain [(2, true)] [] rfl hF (fun C hC => ?_)
  clear hF
  refine Chain.assign rfl rfl rfl rfl rfl rfl ?_
  refine hC _ (fun a hF => ?_)
  clear hC C
  refine seq_end ?_
  replace hF := hF.sub (e' := [(1, _), (2, _), (7, _)]) ⟨rfl, rfl, rfl, trivial⟩
  refine hK _ _ ?_
  clear hK K
  refine wp_seq_k (fun K hK => ?_)
  refine region_seq (l := [0, 1, 2, 3]) (by kernel_rfl) ?_
  refine seq_chain [(0, true), (1, true), (2, true), (3, true)] [] rfl hF (fun C hC => ?_)
  clear hF
  refine Chain.move rfl rfl rfl rfl rfl rfl ?_
  refine Chain.step (v := ?_) rfl rfl rfl rfl ?_ ?_
  rotate_left
  · intro a hF w' hw
    have s22 := hF.slot 22 _ rfl
    cases hw rfl
    clear hF
    go_simp <;> with_reducible rfl
  refine Chain.step (v := ?_) rfl rfl rfl rfl ?_ ?_
  rotate_left
  · intro a hF w' hw
    have s23 := hF.slot 23 _ rfl
    cases hw rfl
    clear hF
    go_simp <;> with_reducible rfl
  refine Chain.assign rfl rfl rfl rfl rfl rfl ?_
  refine hC _ (fun a hF => ?_)
  clear hC C
  refine seq_end ?_
  replace hF := hF.sub (e' := [(1, _), (2, _), (7, _)]) ⟨rfl, rfl, rfl, trivial⟩
  refine hK _ _ ?_
  clear hK K
  clear hsm
  refine wp_seq_k (fun K hK => ?_)
  refine region_seq (l := [0]) (by kernel_rfl) ?_
  refine seq_chain [(0, true)] [] rfl hF (fun C hC => ?_)
  clear hF
  refine Chain.assign rfl rfl rfl rfl rfl rfl ?_
  refine hC _ (fun a hF => ?_)
  clear hC C
  refine seq_end ?_
  replace hF := hF.sub (e' := [(1, _), (2, _), (7, _), (8, _)]) ⟨rfl, rfl, rfl, rfl, trivial⟩
  refine hK _ _ ?_
  clear hK K
  refine seq_cut (fun a' w' => ∃ v8, FrF 333 [] [(7, .slice xa X.length xc), (8, v8)] a' ∧ Hid (BlO w1 (4 * X.length) (fun b => ∃ j, j < X.length ∧ PA1 G st X j b) v8 w')) (fun KA hKA => ?_) ?_
  · refine wp_seq_k (fun K hK => ?_)
    refine region_seq (l := [0]) (by kernel_rfl) ?_
    refine seq_chain [(0, true)] [] rfl hF (fun C hC => ?_)
    clear hF
    refine Chain.assign rfl rfl rfl rfl rfl rfl ?_
    refine hC _ (fun a hF => ?_)
    clear hC C
    refine seq_end ?_
    replace hF := hF.sub (e' := [(1, _), (2, _), (7, _), (8, _), (9, _)]) ⟨rfl, rfl, rfl, rfl, rfl, trivial⟩
    refine hK _ _ ?_
    clear hK K
    refine wp_block ?_
    refine loop_fr (fun k a' w' => ∃ (i : Nat) (v8 : Value), i + k = X.length ∧ FrF 333 [] [(1, .slice ga gn gc), (2, .int .i64 st), (7, .slice xa X.length xc), (8, v8), (9, .int .i64 i)] a' ∧ Hid (BlO w1 (4 * i) (fun b => ∃ j, j < i ∧ PA1 G st X j b) v8 w')) X.length ⟨0, _, by omega, hF, (BlO.start w1).iff (Nat.le_refl _) fun b => ⟨fun h => h.elim, fun ⟨j, hj, _⟩ => by omega⟩⟩ ?_
    clear hF
    rintro rk a wr ⟨i, v8, hik, hF, HO⟩ KB hKB
    refine wp_seq_k (fun K hK => ?_)
    refine wp_seq_k (fun K hK => ?_)
    by_cases hlt : i < X.length
    rotate_left
    · refine region_seq (l := [0, 1, 2, 3]) (by kernel_rfl) ?_
      refine seq_chain [(0, true), (1, true), (2, true), (3, true)] [] rfl hF (fun C hC => ?_)
      clear hF
      refine Chain.move rfl rfl rfl rfl rfl rfl ?_
      refine Chain.move rfl rfl rfl rfl rfl rfl ?_
      refine Chain.step (v := ?_) rfl rfl rfl rfl ?_ ?_
      rotate_left
      · intro a hF w' hw
        have s26 := hF.slot 26 _ rfl
        cases hw rfl
        clear hF
        go_simp <;> with_reducible rfl
      refine Chain.step (v := ?_) rfl rfl rfl rfl ?_ ?_
      rotate_left
      · intro a hF w' hw
        have s25 := hF.slot 25 _ rfl
        have s27 := hF.slot 27 _ rfl
        cases hw rfl
        clear hF
        go_simp <;> with_reducible rfl
      refine hC _ (fun a hF => ?_)
      clear hC C
      refine seq_end ?_
      replace hF := hF.sub (e' := [(1, _), (2, _), (7, _), (8, _), (9, _), (28, _)]) ⟨rfl, rfl, rfl, rfl, rfl, rfl, trivial⟩
      refine hK _ _ ?_
      clear hK K
      refine cond_no hF rfl ?_
      refine wp_exit ?_
      have hii : i = X.length := by omega
      subst hii
      refine hKA _ _ ⟨_, hF.sub (e' := [(7, _), (8, _)]) ⟨rfl, rfl, trivial⟩, HO⟩
    refine region_seq (l := [0, 1, 2, 3]) (by kernel_rfl) ?_
    refine seq_chain [(0, true), (1, true), (2, true), (3, true)] [] rfl hF (fun C hC => ?_)
    clear hF
    refine Chain.move rfl rfl rfl rfl rfl rfl ?_
    refine Chain.move rfl rfl rfl rfl rfl rfl ?_
    refine Chain.step (v := ?_) rfl rfl rfl rfl ?_ ?_
    rotate_left
    · intro a hF w' hw
      have s26 := hF.slot 26 _ rfl
      cases hw rfl
      clear hF
      go_simp <;> with_reducible rfl
    refine Chain.step (v := ?_) rfl rfl rfl rfl ?_ ?_
    rotate_left
    · intro a hF w' hw
      have s25 := hF.slot 25 _ rfl
      have s27 := hF.slot 27 _ rfl
      cases hw rfl
      clear hF
      go_simp <;> with_reducible rfl
    refine hC _ (fun a hF => ?_)
    clear hC C
    refine seq_end ?_
    replace hF := hF.sub (e' := [(1, _), (2, _), (7, _), (8, _), (9, _), (28, _)]) ⟨rfl, rfl, rfl, rfl, rfl, rfl, trivial⟩
    refine hK _ _ ?_
    clear hK K
    refine cond_yes hF rfl ?_
    refine wp_skip ?_
    refine hK _ _ ?_
    clear hK K
    replace hF := hF.sub (e' := [(1, _), (2, _), (7, _), (8, _), (9, _)]) ⟨rfl, rfl, rfl, rfl, rfl, trivial⟩
    obtain ⟨b1, o1, rfl, c0, c1, c2, c3, c4, c5⟩ := scn_at (HX.out.below HO.out.below) i hlt hlt
    have HXm : Hid (∀ (m : Nat) (hm : m < X.length) (w' : World), Below w1.heap.size w1 w' → w'.cell? ⟨b1, o1 + m * 6, none⟩ = some (.int .i64 X[m].gate) ∧ w'.cell? ⟨b1, o1 + m * 6 + 1, none⟩ = some (.int .i64 X[m].number) ∧ w'.cell? ⟨b1, o1 + m * 6 + 2, none⟩ = some (.int .i64 X[m].time) ∧ w'.cell? ⟨b1, o1 + m * 6 + 4, none⟩ = some (.int .i64 X[m].kind)) := fun m hm w' hb => by
      obtain ⟨_, _, e', d0, d1, d2, _, d4, _⟩ := scn_at (HX.out.below hb) m hm hm
      cases e'
      exact ⟨d0, d1, d2, d4⟩
    have HF1 := Lib.hid (fun h b => p1_fork hlt h b)
    have HF2 := Lib.hid (fun e h hl b => p1_less (e := e) hlt h hl b)
    have HEA := Lib.hid (fun e h => early_last (e := e) hlt h)
    have HP2N := Lib.hid (fun h b => p2_none hlt h b)
    have HP2S := Lib.hid (fun m (hm : m < X.length) hk h b => p2_some hlt hm hk h b)
    have HP2K := Lib.hid (fun hk b => p2_kind hlt hk b)
    have HP3K := Lib.hid (fun hk b => p3_kind (gone := G) (st := st) hlt hk b)
    have HP3I := Lib.hid (fun b => p3_iff (gone := G) (st := st) hlt b)
    have HNX : Hid (∀ b, ((∃ j, j < i ∧ PA1 G st X j b) ∨ P1 X i b ∨ P2 X i b ∨ P3 G st X i b) ↔ ∃ j, j < i + 1 ∧ PA1 G st X j b) := fun b => by
      constructor
      · rintro (⟨j, hj, h⟩ | h)
        · exact ⟨j, by omega, h⟩
        · exact ⟨i, by omega, h⟩
      · rintro ⟨j, hj, h⟩
        by_cases e : j = i
        · subst e; exact Or.inr h
        · exact Or.inl ⟨j, by omega, h⟩
    have HER := Lib.hid (fun wx (hb : Below w1.heap.size w1 wx) => earlier_any (some ⟨b1, o1, none⟩) X.length xc X i wx (HX.out.below hb) (by omega) hlt)
    generalize X[i] = x at *
    refine seq_cut (fun a' w' => ∃ v8, FrF 333 [] [(1, .slice ga gn gc), (2, .int .i64 st), (7, .slice (some ⟨b1, o1, none⟩) X.length xc), (8, v8), (9, .int .i64 i)] a' ∧ Hid (BlO w1 (4 * (i + 1)) (fun b => ∃ j, j < i + 1 ∧ PA1 G st X j b) v8 w')) (fun KC hKC => ?_) ?_
    rotate_left
    · clear HF1 HF2 HEA HP2N HP2S HP2K HP3K HP3I HNX HER HXm HO hF c0 c1 c2 c3 c4 c5
      rintro a w' ⟨v8, hF, HO⟩
      have hws : IntKind.i64.wrap ((i : Int) + 1) = ((i + 1 : Nat) : Int) := wrap_succ (by omega)
      refine region_seq (l := [0, 1, 2]) (by kernel_rfl) ?_
      refine seq_chain [(0, true), (1, true), (2, true)] [] rfl hF (fun C hC => ?_)
      clear hF
      refine Chain.move rfl rfl rfl rfl rfl rfl ?_
      refine Chain.step (v := ?_) rfl rfl rfl rfl ?_ ?_
      rotate_left
      · intro a hF w' hw
        have s29 := hF.slot 29 _ rfl
        cases hw rfl
        clear hF
        go_simp <;> with_reducible rfl
      refine Chain.assign rfl rfl rfl rfl rfl rfl ?_
      refine hC _ (fun a hF => ?_)
      clear hC C
      refine seq_end ?_
      replace hF := hF.sub (e' := [(1, _), (2, _), (7, _), (8, _), (9, _)]) ⟨rfl, rfl, rfl, rfl, rfl, trivial⟩
      exact hKB (X.length - (i + 1)) _ _ (by omega) ⟨i + 1, v8, by omega, hF, HO⟩
    clear hKB hik
    refine wp_block ?_
    refine wp_seq_k (fun K hK => ?_)
    refine region_seq (l := [0, 1, 2, 3, 4, 5]) (by kernel_rfl) ?_
    refine seq_chain [(0, true), (1, true), (2, true), (3, true)] [4, 5] rfl hF (fun C hC => ?_)
    clear hF
    refine Chain.move rfl rfl rfl rfl rfl rfl ?_
    refine Chain.move rfl rfl rfl rfl rfl rfl ?_
    refine Chain.step (v := ?_) rfl rfl rfl rfl ?_ ?_
    rotate_left
    · intro a hF w' hw
      have s31 := hF.slot 31 _ rfl
      have s32 := hF.slot 32 _ rfl
      cases hw rfl
      clear hF
      go_simp <;> with_reducible rfl
    refine Chain.step (v := ?_) rfl rfl rfl rfl ?_ ?_
    rotate_left
    · intro a hF w' hw
      have s33 := hF.slot 33 _ rfl
      cases hw rfl
      clear hF
      go_simp <;> with_reducible rfl
    refine hC _ (fun a hF => ?_)
    clear hC C
    refine seq_one ?_
    refine op_eff (v := ?_) (w' := ?_) rfl rfl rfl hF rfl ?_ ?_
    rotate_left 2
    · intro a hF
      clear hF
      go_simp <;> first | with_reducible rfl | (constructor <;> with_reducible rfl)
    clear hF
    refine fun a hF => ?_
    refine seq_one ?_
    refine op_unit (w' := ?_) rfl rfl hF rfl ?_ ?_
    rotate_left 1
    · intro a hF
      have s10 := hF.slot 10 _ rfl
      have s34 := hF.slot 34 _ rfl
      clear hF
      go_simp <;> with_reducible rfl
    clear hF
    refine fun a hF => ?_
    refine seq_end ?_
    replace hF := hF.sub (e' := [(1, _), (2, _), (7, _), (8, _), (9, _), (10, _)]) ⟨rfl, rfl, rfl, rfl, rfl, rfl, trivial⟩
    refine hK _ _ ?_
    clear hK K
    have hA := Joins.below_alloc1 wr (.cells #[.int .i64 x.gate, .int .i64 x.number, .int .i64 x.time, .int .i64 x.serial, .int .i64 x.kind, .string (bs x.owner)] 39)
    have HGX : Hid (XIn (wr.alloc (.cells #[.int .i64 x.gate, .int .i64 x.number, .int .i64 x.time, .int .i64 x.serial, .int .i64 x.kind, .string (bs x.owner)] 39)) wr.heap.size x) := World.alloc_heap_new wr _
    have HO2 := Lib.hid (HO.out.down hA)
    clear hA HO c0 c1 c2 c3 c4 c5
    generalize wr.alloc (.cells #[.int .i64 x.gate, .int .i64 x.number, .int .i64 x.time, .int .i64 x.serial, .int .i64 x.kind, .string (bs x.owner)] 39) = w2 at *
    generalize wr.heap.size = gx at *
    have HFI := Lib.hid (find_any (some ⟨b1, o1, none⟩) X.length xc X x.gate x.number w2 (HX.out.below HO2.out.below) (by omega))
    have HFK := Lib.hid (fun g nu (wx : World) (hb : Below w1.heap.size w1 wx) => find_any (some ⟨b1, o1, none⟩) X.length xc X g nu wx (HX.out.below hb) (by omega))
    generalize findS X x.gate x.number = f at *
    refine wp_seq_k (fun K hK => ?_)
    obtain ⟨x0, x1, x2, x3, x4⟩ := HGX.out.cells
    refine region_seq (l := [0, 1, 2, 3, 4, 5, 6]) (by kernel_rfl) ?_
    refine seq_chain [(0, true), (1, true), (2, true), (3, true), (4, true)] [5, 6] rfl hF (fun C hC => ?_)
    clear hF
    refine Chain.move rfl rfl rfl rfl rfl rfl ?_
    refine Chain.step (v := ?_) rfl rfl rfl rfl ?_ ?_
    rotate_left
    · intro a hF w' hw
      have s10 := hF.slot 10 _ rfl
      cases hw rfl
      clear hF
      go_simp <;> with_reducible rfl
    refine Chain.step (v := ?_) rfl rfl rfl rfl ?_ ?_
    rotate_left
    · intro a hF w' hw
      have s36 := hF.slot 36 _ rfl
      cases hw rfl
      clear hF
      go_simp <;> with_reducible rfl
    refine Chain.step (v := ?_) rfl rfl rfl rfl ?_ ?_
    rotate_left
    · intro a hF w' hw
      have s10 := hF.slot 10 _ rfl
      cases hw rfl
      clear hF
      go_simp <;> with_reducible rfl
    refine Chain.step (v := ?_) rfl rfl rfl rfl ?_ ?_
    rotate_left
    · intro a hF w' hw
      have s38 := hF.slot 38 _ rfl
      cases hw rfl
      clear hF
      go_simp <;> with_reducible rfl
    refine hC _ (fun a hF => ?_)
    clear hC C
    refine seq_one ?_
    refine op_call [_, _, _] rfl rfl hF rfl (by kernel_rfl) ⟨rfl, rfl, rfl, trivial⟩ (fun K hK => ?_)
    clear hF
    refine HFI.out.mono ?_
    rintro e w' ⟨rfl, rfl⟩
    clear HFI
    refine hK _ _ (fun a hF => ?_)
    clear hK K
    refine seq_chain [(6, true)] [] rfl hF (fun C hC => ?_)
    clear hF
    refine Chain.assign rfl rfl rfl rfl rfl rfl ?_
    refine hC _ (fun a hF => ?_)
    clear hC C
    refine seq_end ?_
    replace hF := hF.sub (e' := [(1, _), (2, _), (7, _), (8, _), (9, _), (10, _), (11, _)]) ⟨rfl, rfl, rfl, rfl, rfl, rfl, rfl, trivial⟩
    refine hK _ _ ?_
    clear hK K
    refine seq_cut (fun a' w' => ∃ v8, FrF 333 [] [(1, .slice ga gn gc), (2, .int .i64 st), (7, .slice (some ⟨b1, o1, none⟩) X.length xc), (8, v8), (9, .int .i64 i), (10, .pointer (some ⟨gx, 0, none⟩))] a' ∧ Hid (BlO w1 (4 * i + 1) (fun b => (∃ j, j < i ∧ PA1 G st X j b) ∨ P1 X i b) v8 w') ∧ Hid (XIn w' gx x)) (fun KD hKD => ?_) ?_
    · clear HEA HP2N HP2S HP2K HP3K HP3I HNX HER hKC
      refine wp_seq_k (fun K hK => ?_)
      by_cases hfi : f < (i : Int)
      · have HF1 := Lib.hid (fun b => HF1.out hfi b)
        refine region_seq (l := [0, 1, 2]) (by kernel_rfl) ?_
        refine seq_chain [(0, true), (1, true), (2, true)] [] rfl hF (fun C hC => ?_)
        clear hF
        refine Chain.move rfl rfl rfl rfl rfl rfl ?_
        refine Chain.move rfl rfl rfl rfl rfl rfl ?_
        refine Chain.step (v := ?_) rfl rfl rfl rfl ?_ ?_
        rotate_left
        · intro a hF w' hw
          have s41 := hF.slot 41 _ rfl
          have s42 := hF.slot 42 _ rfl
          cases hw rfl
          clear hF
          go_simp <;> with_reducible rfl
        refine hC _ (fun a hF => ?_)
        clear hC C
        refine seq_end ?_
        replace hF := hF.sub (e' := [(1, _), (2, _), (7, _), (8, _), (9, _), (10, _), (43, _)]) ⟨rfl, rfl, rfl, rfl, rfl, rfl, rfl, trivial⟩
        refine hK _ _ ?_
        clear hK K
        refine cond_yes hF rfl ?_
        refine region_seq (l := [0, 1, 2, 3, 4, 5, 6, 7, 8, 9, 10, 11, 12, 13]) (by kernel_rfl) ?_
        refine seq_chain [(0, true), (1, true), (2, true), (3, true), (4, true), (5, true), (6, true), (7, true), (8, true), (9, true), (10, true), (11, true)] [12, 13] rfl hF (fun C hC => ?_)
        clear hF
        refine Chain.move rfl rfl rfl rfl rfl rfl ?_
        refine Chain.step (v := ?_) rfl rfl rfl rfl ?_ ?_
        rotate_left
        · intro a hF w' hw
          have s10 := hF.slot 10 _ rfl
          cases hw rfl
          clear hF
          go_simp <;> with_reducible rfl
        refine Chain.step (v := ?_) rfl rfl rfl rfl ?_ ?_
        rotate_left
        · intro a hF w' hw
          have s45 := hF.slot 45 _ rfl
          cases hw rfl
          clear hF
          go_simp <;> with_reducible rfl
        refine Chain.step (v := ?_) rfl rfl rfl rfl ?_ ?_
        rotate_left
        · intro a hF w' hw
          have s10 := hF.slot 10 _ rfl
          cases hw rfl
          clear hF
          go_simp <;> with_reducible rfl
        refine Chain.step (v := ?_) rfl rfl rfl rfl ?_ ?_
        rotate_left
        · intro a hF w' hw
          have s47 := hF.slot 47 _ rfl
          cases hw rfl
          clear hF
          go_simp <;> with_reducible rfl
        refine Chain.step (v := ?_) rfl rfl rfl rfl ?_ ?_
        rotate_left
        · intro a hF w' hw
          have s10 := hF.slot 10 _ rfl
          cases hw rfl
          clear hF
          go_simp <;> with_reducible rfl
        refine Chain.step (v := ?_) rfl rfl rfl rfl ?_ ?_
        rotate_left
        · intro a hF w' hw
          have s49 := hF.slot 49 _ rfl
          cases hw rfl
          clear hF
          go_simp <;> with_reducible rfl
        refine Chain.step (v := ?_) rfl rfl rfl rfl ?_ ?_
        rotate_left
        · intro a hF w' hw
          have s10 := hF.slot 10 _ rfl
          cases hw rfl
          clear hF
          go_simp <;> with_reducible rfl
        refine Chain.step (v := ?_) rfl rfl rfl rfl ?_ ?_
        rotate_left
        · intro a hF w' hw
          have s51 := hF.slot 51 _ rfl
          cases hw rfl
          clear hF
          go_simp <;> with_reducible rfl
        refine Chain.step (v := ?_) rfl rfl rfl rfl ?_ ?_
        rotate_left
        · intro a hF w' hw
          have s10 := hF.slot 10 _ rfl
          cases hw rfl
          clear hF
          go_simp <;> with_reducible rfl
        refine Chain.step (v := ?_) rfl rfl rfl rfl ?_ ?_
        rotate_left
        · intro a hF w' hw
          have s53 := hF.slot 53 _ rfl
          cases hw rfl
          clear hF
          go_simp <;> with_reducible rfl
        refine Chain.step (v := ?_) rfl rfl rfl rfl ?_ ?_
        rotate_left
        · intro a hF w' hw
          have s46 := hF.slot 46 _ rfl
          have s48 := hF.slot 48 _ rfl
          have s50 := hF.slot 50 _ rfl
          have s52 := hF.slot 52 _ rfl
          have s54 := hF.slot 54 _ rfl
          cases hw rfl
          clear hF
          go_simp <;> with_reducible rfl
        refine hC _ (fun a hF => ?_)
        clear hC C
        refine seq_one ?_
        refine op_call [_, _] rfl rfl hF rfl (by kernel_rfl) ⟨rfl, rfl, trivial⟩ (fun K hK => ?_)
        clear hF
        refine (blo_add HO2.out (by omega) (forkB x)).mono ?_
        rintro e w3 ⟨v3, rfl, hO, hfar⟩
        refine hK _ _ (fun a hF => ?_)
        clear hK K
        refine seq_chain [(13, true)] [] rfl hF (fun C hC => ?_)
        clear hF
        refine Chain.assign rfl rfl rfl rfl rfl rfl ?_
        refine hC _ (fun a hF => ?_)
        clear hC C
        refine seq_end ?_
        replace hF := hF.sub (e' := [(1, _), (2, _), (7, _), (8, _), (9, _), (10, _)]) ⟨rfl, rfl, rfl, rfl, rfl, rfl, trivial⟩
        refine hKD _ _ ⟨_, hF, hO.iff (Nat.le_refl _) fun b => ?_, hfar _ _ _ _ HGX.out (by decide)⟩
        rw [HF1.out b]
        exact ⟨fun h => h.elim Or.inr Or.inl, fun h => h.elim Or.inr Or.inl⟩
      have HF2 := Lib.hid (fun e hl b => HF2.out e (by omega) hl b)
      clear HF1
      refine region_seq (l := [0, 1, 2]) (by kernel_rfl) ?_
      refine seq_chain [(0, true), (1, true), (2, true)] [] rfl hF (fun C hC => ?_)
      clear hF
      refine Chain.move rfl rfl rfl rfl rfl rfl ?_
      refine Chain.move rfl rfl rfl rfl rfl rfl ?_
      refine Chain.step (v := ?_) rfl rfl rfl rfl ?_ ?_
      rotate_left
      · intro a hF w' hw
        have s41 := hF.slot 41 _ rfl
        have s42 := hF.slot 42 _ rfl
        cases hw rfl
        clear hF
        go_simp <;> with_reducible rfl
      refine hC _ (fun a hF => ?_)
      clear hC C
      refine seq_end ?_
      replace hF := hF.sub (e' := [(1, _), (2, _), (7, _), (8, _), (9, _), (10, _), (43, _)]) ⟨rfl, rfl, rfl, rfl, rfl, rfl, rfl, trivial⟩
      refine hK _ _ ?_
      clear hK K
      refine cond_no hF rfl ?_
      clear x0 x1 x2 x3 x4
      refine wp_seq_k (fun K hK => ?_)
      refine region_seq (l := [0]) (by kernel_rfl) ?_
      refine seq_chain [(0, true)] [] rfl hF (fun C hC => ?_)
      clear hF
      refine Chain.assign rfl rfl rfl rfl rfl rfl ?_
      refine hC _ (fun a hF => ?_)
      clear hC C
      refine seq_end ?_
      replace hF := hF.sub (e' := [(1, _), (2, _), (7, _), (8, _), (9, _), (10, _), (12, _)]) ⟨rfl, rfl, rfl, rfl, rfl, rfl, rfl, trivial⟩
      refine hK _ _ ?_
      clear hK K
      refine seq_cut (fun a' w' => ∃ e : Int, FrF 333 [] [(1, .slice ga gn gc), (2, .int .i64 st), (7, .slice (some ⟨b1, o1, none⟩) X.length xc), (8, v8), (9, .int .i64 i), (10, .pointer (some ⟨gx, 0, none⟩)), (12, .int .i64 e)] a' ∧ Hid (IsLess X x X.length e) ∧ Hid (Below w2.heap.size w2 w')) (fun KE hKE => ?_) ?_
      · clear hKD
        refine wp_seq_k (fun K hK => ?_)
        refine region_seq (l := [0]) (by kernel_rfl) ?_
        refine seq_chain [(0, true)] [] rfl hF (fun C hC => ?_)
        clear hF
        refine Chain.assign rfl rfl rfl rfl rfl rfl ?_
        refine hC _ (fun a hF => ?_)
        clear hC C
        refine seq_end ?_
        replace hF := hF.sub (e' := [(1, _), (2, _), (7, _), (8, _), (9, _), (10, _), (12, _), (13, _)]) ⟨rfl, rfl, rfl, rfl, rfl, rfl, rfl, rfl, trivial⟩
        refine hK _ _ ?_
        clear hK K
        refine wp_block ?_
        refine loop_fr (fun n a' w' => ∃ (k : Nat) (e : Int), k + n = X.length ∧ FrF 333 [] [(1, .slice ga gn gc), (2, .int .i64 st), (7, .slice (some ⟨b1, o1, none⟩) X.length xc), (8, v8), (9, .int .i64 i), (10, .pointer (some ⟨gx, 0, none⟩)), (12, .int .i64 e), (13, .int .i64 k)] a' ∧ Hid (IsLess X x k e) ∧ Hid (Below w2.heap.size w2 w')) X.length ⟨0, -1, by omega, hF, less_start X x, Below.refl _ _⟩ ?_
        clear hF
        rintro rk a wr ⟨k, e, hkk, hF, HLS, HBr⟩ KF hKF
        have HOr := Lib.hid (HO2.out.down HBr.out)
        have HGr : Hid (XIn wr gx x) := HGX.out.down HBr.out
        have HEM : Hid (e = -1 ∨ ∃ (m : Nat) (hm : m < X.length), e = m) := by
          rcases HLS.out with ⟨h, _⟩ | ⟨m, hm, h, _⟩
          · exact Or.inl h
          · exact Or.inr ⟨m, hm, h⟩
        refine wp_seq_k (fun K hK => ?_)
        refine wp_seq_k (fun K hK => ?_)
        by_cases hltk : k < X.length
        rotate_left
        · refine region_seq (l := [0, 1, 2, 3]) (by kernel_rfl) ?_
          refine seq_chain [(0, true), (1, true), (2, true), (3, true)] [] rfl hF (fun C hC => ?_)
          clear hF
          refine Chain.move rfl rfl rfl rfl rfl rfl ?_
          refine Chain.move rfl rfl rfl rfl rfl rfl ?_
          refine Chain.step (v := ?_) rfl rfl rfl rfl ?_ ?_
          rotate_left
          · intro a hF w' hw
            have s58 := hF.slot 58 _ rfl
            cases hw rfl
            clear hF
            go_simp <;> with_reducible rfl
          refine Chain.step (v := ?_) rfl rfl rfl rfl ?_ ?_
          rotate_left
          · intro a hF w' hw
            have s57 := hF.slot 57 _ rfl
            have s59 := hF.slot 59 _ rfl
            cases hw rfl
            clear hF
            go_simp <;> with_reducible rfl
          refine hC _ (fun a hF => ?_)
          clear hC C
          refine seq_end ?_
          replace hF := hF.sub (e' := [(1, _), (2, _), (7, _), (8, _), (9, _), (10, _), (12, _), (13, _), (60, _)]) ⟨rfl, rfl, rfl, rfl, rfl, rfl, rfl, rfl, rfl, trivial⟩
          refine hK _ _ ?_
          clear hK K
          refine cond_no hF rfl ?_
          refine wp_exit ?_
          have hke : k = X.length := by omega
          subst hke
          exact hKE _ _ ⟨e, hF.sub ⟨rfl, rfl, rfl, rfl, rfl, rfl, rfl, trivial⟩, HLS, HBr⟩
        refine region_seq (l := [0, 1, 2, 3]) (by kernel_rfl) ?_
        refine seq_chain [(0, true), (1, true), (2, true), (3, true)] [] rfl hF (fun C hC => ?_)
        clear hF
        refine Chain.move rfl rfl rfl rfl rfl rfl ?_
        refine Chain.move rfl rfl rfl rfl rfl rfl ?_
        refine Chain.step (v := ?_) rfl rfl rfl rfl ?_ ?_
        rotate_left
        · intro a hF w' hw
          have s58 := hF.slot 58 _ rfl
          cases hw rfl
          clear hF
          go_simp <;> with_reducible rfl
        refine Chain.step (v := ?_) rfl rfl rfl rfl ?_ ?_
        rotate_left
        · intro a hF w' hw
          have s57 := hF.slot 57 _ rfl
          have s59 := hF.slot 59 _ rfl
          cases hw rfl
          clear hF
          go_simp <;> with_reducible rfl
        refine hC _ (fun a hF => ?_)
        clear hC C
        refine seq_end ?_
        replace hF := hF.sub (e' := [(1, _), (2, _), (7, _), (8, _), (9, _), (10, _), (12, _), (13, _), (60, _)]) ⟨rfl, rfl, rfl, rfl, rfl, rfl, rfl, rfl, rfl, trivial⟩
        refine hK _ _ ?_
        clear hK K
        refine cond_yes hF rfl ?_
        refine wp_skip ?_
        refine hK _ _ ?_
        clear hK K
        replace hF := hF.sub (e' := [(1, _), (2, _), (7, _), (8, _), (9, _), (10, _), (12, _), (13, _)]) ⟨rfl, rfl, rfl, rfl, rfl, rfl, rfl, rfl, trivial⟩
        clear hKE
        have HSK := Lib.hid (less_skip hltk HLS.out)
        have HTK := Lib.hid (less_take hltk HLS.out)
        have hki : (k : Int) < X.length := by omega
        have HKK : Hid (∀ w' : World, Below wr.heap.size wr w' → w'.cell? ⟨b1, o1 + k * 6, none⟩ = some (.int .i64 X[k].gate) ∧ w'.cell? ⟨b1, o1 + k * 6 + 1, none⟩ = some (.int .i64 X[k].number) ∧ w'.cell? ⟨gx, 0, none⟩ = some (.int .i64 x.gate) ∧ w'.cell? ⟨gx, 1, none⟩ = some (.int .i64 x.number)) := fun w' hb => by
          have hw := HOr.out.below.trans (hb.mono HOr.out.below.size)
          obtain ⟨d0, d1, _, _⟩ := HXm.out k hltk w' hw
          obtain ⟨y0, y1, _, _, _⟩ := (HGr.out.down hb).cells
          exact ⟨d0, d1, y0, y1⟩
        have HYM : Hid (∀ (m : Nat) (hm : m < X.length), e = m → ∀ w' : World, Below wr.heap.size wr w' → w'.cell? ⟨b1, o1 + m * 6 + 1, none⟩ = some (.int .i64 X[m].number)) := fun m hm _ w' hb => (HXm.out m hm w' (HOr.out.below.trans (hb.mono HOr.out.below.size))).2.1
        clear HLS
        generalize X[k] = y at *
        refine seq_cut (fun a' w' => ∃ e : Int, FrF 333 [] [(1, .slice ga gn gc), (2, .int .i64 st), (7, .slice (some ⟨b1, o1, none⟩) X.length xc), (8, v8), (9, .int .i64 i), (10, .pointer (some ⟨gx, 0, none⟩)), (12, .int .i64 e), (13, .int .i64 k)] a' ∧ Hid (IsLess X x (k + 1) e) ∧ Hid (Below w2.heap.size w2 w')) (fun KG hKG => ?_) ?_
        rotate_left
        · clear HSK HTK HKK HYM HEM HOr HGr hF
          rintro a w' ⟨e', hF, HLS, HBr⟩
          have hws : IntKind.i64.wrap ((k : Int) + 1) = ((k + 1 : Nat) : Int) := wrap_succ (by omega)
          refine region_seq (l := [0, 1, 2]) (by kernel_rfl) ?_
          refine seq_chain [(0, true), (1, true), (2, true)] [] rfl hF (fun C hC => ?_)
          clear hF
          refine Chain.move rfl rfl rfl rfl rfl rfl ?_
          refine Chain.step (v := ?_) rfl rfl rfl rfl ?_ ?_
          rotate_left
          · intro a hF w' hw
            have s61 := hF.slot 61 _ rfl
            cases hw rfl
            clear hF
            go_simp <;> with_reducible rfl
          refine Chain.assign rfl rfl rfl rfl rfl rfl ?_
          refine hC _ (fun a hF => ?_)
          clear hC C
          refine seq_end ?_
          replace hF := hF.sub (e' := [(1, _), (2, _), (7, _), (8, _), (9, _), (10, _), (12, _), (13, _)]) ⟨rfl, rfl, rfl, rfl, rfl, rfl, rfl, rfl, trivial⟩
          exact hKF (X.length - (k + 1)) _ _ (by omega) ⟨k + 1, e', by omega, hF, HLS, HBr⟩
        clear hKF hkk
        refine wp_block ?_
        refine wp_seq_k (fun K hK => ?_)
        have HB0 : Hid (Below wr.heap.size wr wr.drew) := below_d (Below.refl _ _)
        obtain ⟨d0, d1, y0, y1⟩ := HKK.out wr.drew HB0.out
        by_cases h1 : y.gate = x.gate
        rotate_left
        · have hb2 : (y.gate == x.gate) = false := by simp [h1]
          have HS1 := Lib.hid (HSK.out (Or.inl (fun h => h1 h.1)))
          clear h1
          refine region_any (by kernel_rfl) ?_
          refine any_chain (fuel := 0) [(0, false), (1, false), (2, false), (3, false), (4, true), (5, false), (6, true), (7, false), (8, false), (9, false), (10, false), (11, false), (12, false), (13, true), (14, false), (15, true), (16, false), (17, false), (18, false), (19, false), (20, false), (21, false), (22, false), (23, false), (24, false), (25, false), (26, true), (27, false), (28, false), (29, false), (30, false), (31, true), (32, false), (33, false), (34, false)] [] rfl (by kernel_rfl) (by kernel_rfl) hF (fun _ _ d _ _ h => by cases d <;> exact h) (fun C hC => ?_)
          clear hF
          refine Chain.move rfl rfl rfl rfl rfl rfl ?_
          refine Chain.move rfl rfl rfl rfl rfl rfl ?_
          refine Chain.step (v := ?_) rfl rfl rfl rfl ?_ ?_
          rotate_left
          · intro a hF w' hw
            have s63 := hF.slot 63 _ rfl
            have s64 := hF.slot 64 _ rfl
            clear hw
            clear hF
            go_simp <;> with_reducible rfl
          refine Chain.step (v := ?_) rfl rfl rfl rfl ?_ ?_
          rotate_left
          · intro a hF w' hw
            have s65 := hF.slot 65 _ rfl
            clear hw
            clear hF
            go_simp <;> with_reducible rfl
          refine Chain.step (v := ?_) rfl rfl rfl rfl ?_ ?_
          rotate_left
          · intro a hF w' hw
            have s66 := hF.slot 66 _ rfl
            cases hw rfl
            clear hF
            go_simp <;> with_reducible rfl
          refine Chain.step (v := ?_) rfl rfl rfl rfl ?_ ?_
          rotate_left
          · intro a hF w' hw
            have s10 := hF.slot 10 _ rfl
            clear hw
            clear hF
            go_simp <;> with_reducible rfl
          refine Chain.step (v := ?_) rfl rfl rfl rfl ?_ ?_
          rotate_left
          · intro a hF w' hw
            have s68 := hF.slot 68 _ rfl
            cases hw rfl
            clear hF
            go_simp <;> with_reducible rfl
          refine Chain.step (v := ?_) rfl rfl rfl rfl ?_ ?_
          rotate_left
          · intro a hF w' hw
            have s67 := hF.slot 67 _ rfl
            have s69 := hF.slot 69 _ rfl
            clear hw
            clear hF
            go_simp <;> with_reducible rfl
          refine Chain.move rfl rfl rfl rfl rfl rfl ?_
          refine Chain.skip rfl rfl rfl rfl ?_
          refine Chain.skip rfl rfl rfl rfl ?_
          refine Chain.skip rfl rfl rfl rfl ?_
          refine Chain.skip rfl rfl rfl rfl ?_
          refine Chain.skip rfl rfl rfl rfl ?_
          refine Chain.skip rfl rfl rfl rfl ?_
          refine Chain.skip rfl rfl rfl rfl ?_
          refine Chain.skip rfl rfl rfl rfl ?_
          refine Chain.step (v := ?_) rfl rfl rfl rfl ?_ ?_
          rotate_left
          · intro a hF w' hw
            have s71 := hF.slot 71 _ rfl
            have s79 := hF.slot 79 _ rfl
            clear hw
            clear hF
            go_simp <;> with_reducible rfl
          refine Chain.move rfl rfl rfl rfl rfl rfl ?_
          refine Chain.skip rfl rfl rfl rfl ?_
          refine Chain.skip rfl rfl rfl rfl ?_
          refine Chain.skip rfl rfl rfl rfl ?_
          refine Chain.skip rfl rfl rfl rfl ?_
          refine Chain.skip rfl rfl rfl rfl ?_
          refine Chain.skip rfl rfl rfl rfl ?_
          refine Chain.skip rfl rfl rfl rfl ?_
          refine Chain.skip rfl rfl rfl rfl ?_
          refine Chain.skip rfl rfl rfl rfl ?_
          refine Chain.skip rfl rfl rfl rfl ?_
          refine Chain.skip rfl rfl rfl rfl ?_
          refine Chain.skip rfl rfl rfl rfl ?_
          refine Chain.skip rfl rfl rfl rfl ?_
          refine Chain.skip rfl rfl rfl rfl ?_
          refine Chain.skip rfl rfl rfl rfl ?_
          refine Chain.step (v := ?_) rfl rfl rfl rfl ?_ ?_
          rotate_left
          · intro a hF w' hw
            have s81 := hF.slot 81 _ rfl
            have s96 := hF.slot 96 _ rfl
            clear hw
            clear hF
            go_simp <;> with_reducible rfl
          refine hC _ (fun a hF => ?_)
          clear hC C
          refine any_end (by kernel_rfl) ?_
          replace hF := hF.sub (e' := [(1, _), (2, _), (7, _), (8, _), (9, _), (10, _), (12, _), (13, _), (97, _)]) ⟨rfl, rfl, rfl, rfl, rfl, rfl, rfl, rfl, rfl, trivial⟩
          refine hK _ _ ?_
          clear hK K
          refine cond_no hF rfl ?_
          refine wp_skip ?_
          exact hKG _ _ ⟨e, hF.sub ⟨rfl, rfl, rfl, rfl, rfl, rfl, rfl, rfl, trivial⟩, HS1, below_d HBr.out⟩
        have hb2 : (y.gate == x.gate) = true := by simp [h1]
        by_cases h2 : y.number < x.number
        rotate_left
        · have hb3 : decide (y.number < x.number) = false := decide_eq_false h2
          have HS1 := Lib.hid (HSK.out (Or.inl (fun h => h2 h.2)))
          clear h1 h2
          refine region_any (by kernel_rfl) ?_
          refine any_chain (fuel := 0) [(0, false), (1, false), (2, false), (3, false), (4, true), (5, false), (6, true), (7, false), (8, false), (9, false), (10, false), (11, false), (12, false), (13, true), (14, false), (15, true), (16, false), (17, false), (18, false), (19, false), (20, false), (21, false), (22, false), (23, false), (24, false), (25, false), (26, true), (27, false), (28, false), (29, false), (30, false), (31, true), (32, false), (33, false), (34, false)] [] rfl (by kernel_rfl) (by kernel_rfl) hF (fun _ _ d _ _ h => by cases d <;> exact h) (fun C hC => ?_)
          clear hF
          refine Chain.move rfl rfl rfl rfl rfl rfl ?_
          refine Chain.move rfl rfl rfl rfl rfl rfl ?_
          refine Chain.step (v := ?_) rfl rfl rfl rfl ?_ ?_
          rotate_left
          · intro a hF w' hw
            have s63 := hF.slot 63 _ rfl
            have s64 := hF.slot 64 _ rfl
            clear hw
            clear hF
            go_simp <;> with_reducible rfl
          refine Chain.step (v := ?_) rfl rfl rfl rfl ?_ ?_
          rotate_left
          · intro a hF w' hw
            have s65 := hF.slot 65 _ rfl
            clear hw
            clear hF
            go_simp <;> with_reducible rfl
          refine Chain.step (v := ?_) rfl rfl rfl rfl ?_ ?_
          rotate_left
          · intro a hF w' hw
            have s66 := hF.slot 66 _ rfl
            cases hw rfl
            clear hF
            go_simp <;> with_reducible rfl
          refine Chain.step (v := ?_) rfl rfl rfl rfl ?_ ?_
          rotate_left
          · intro a hF w' hw
            have s10 := hF.slot 10 _ rfl
            clear hw
            clear hF
            go_simp <;> with_reducible rfl
          refine Chain.step (v := ?_) rfl rfl rfl rfl ?_ ?_
          rotate_left
          · intro a hF w' hw
            have s68 := hF.slot 68 _ rfl
            cases hw rfl
            clear hF
            go_simp <;> with_reducible rfl
          refine Chain.step (v := ?_) rfl rfl rfl rfl ?_ ?_
          rotate_left
          · intro a hF w' hw
            have s67 := hF.slot 67 _ rfl
            have s69 := hF.slot 69 _ rfl
            clear hw
            clear hF
            go_simp <;> with_reducible rfl
          refine Chain.move rfl rfl rfl rfl rfl rfl ?_
          refine Chain.move rfl rfl rfl rfl rfl rfl ?_
          refine Chain.move rfl rfl rfl rfl rfl rfl ?_
          refine Chain.step (v := ?_) rfl rfl rfl rfl ?_ ?_
          rotate_left
          · intro a hF w' hw
            have s72 := hF.slot 72 _ rfl
            have s73 := hF.slot 73 _ rfl
            clear hw
            clear hF
            go_simp <;> with_reducible rfl
          refine Chain.step (v := ?_) rfl rfl rfl rfl ?_ ?_
          rotate_left
          · intro a hF w' hw
            have s74 := hF.slot 74 _ rfl
            clear hw
            clear hF
            go_simp <;> with_reducible rfl
          refine Chain.step (v := ?_) rfl rfl rfl rfl ?_ ?_
          rotate_left
          · intro a hF w' hw
            have s75 := hF.slot 75 _ rfl
            cases hw rfl
            clear hF
            go_simp <;> with_reducible rfl
          refine Chain.step (v := ?_) rfl rfl rfl rfl ?_ ?_
          rotate_left
          · intro a hF w' hw
            have s10 := hF.slot 10 _ rfl
            clear hw
            clear hF
            go_simp <;> with_reducible rfl
          refine Chain.step (v := ?_) rfl rfl rfl rfl ?_ ?_
          rotate_left
          · intro a hF w' hw
            have s77 := hF.slot 77 _ rfl
            cases hw rfl
            clear hF
            go_simp <;> with_reducible rfl
          refine Chain.step (v := ?_) rfl rfl rfl rfl ?_ ?_
          rotate_left
          · intro a hF w' hw
            have s76 := hF.slot 76 _ rfl
            have s78 := hF.slot 78 _ rfl
            clear hw
            clear hF
            go_simp <;> with_reducible rfl
          refine Chain.step (v := ?_) rfl rfl rfl rfl ?_ ?_
          rotate_left
          · intro a hF w' hw
            have s71 := hF.slot 71 _ rfl
            have s79 := hF.slot 79 _ rfl
            clear hw
            clear hF
            go_simp <;> with_reducible rfl
          refine Chain.move rfl rfl rfl rfl rfl rfl ?_
          refine Chain.skip rfl rfl rfl rfl ?_
          refine Chain.skip rfl rfl rfl rfl ?_
          refine Chain.skip rfl rfl rfl rfl ?_
          refine Chain.skip rfl rfl rfl rfl ?_
          refine Chain.skip rfl rfl rfl rfl ?_
          refine Chain.skip rfl rfl rfl rfl ?_
          refine Chain.skip rfl rfl rfl rfl ?_
          refine Chain.skip rfl rfl rfl rfl ?_
          refine Chain.skip rfl rfl rfl rfl ?_
          refine Chain.skip rfl rfl rfl rfl ?_
          refine Chain.skip rfl rfl rfl rfl ?_
          refine Chain.skip rfl rfl rfl rfl ?_
          refine Chain.skip rfl rfl rfl rfl ?_
          refine Chain.skip rfl rfl rfl rfl ?_
          refine Chain.skip rfl rfl rfl rfl ?_
          refine Chain.step (v := ?_) rfl rfl rfl rfl ?_ ?_
          rotate_left
          · intro a hF w' hw
            have s81 := hF.slot 81 _ rfl
            have s96 := hF.slot 96 _ rfl
            clear hw
            clear hF
            go_simp <;> with_reducible rfl
          refine hC _ (fun a hF => ?_)
          clear hC C
          refine any_end (by kernel_rfl) ?_
          replace hF := hF.sub (e' := [(1, _), (2, _), (7, _), (8, _), (9, _), (10, _), (12, _), (13, _), (97, _)]) ⟨rfl, rfl, rfl, rfl, rfl, rfl, rfl, rfl, rfl, trivial⟩
          refine hK _ _ ?_
          clear hK K
          refine cond_no hF rfl ?_
          refine wp_skip ?_
          exact hKG _ _ ⟨e, hF.sub ⟨rfl, rfl, rfl, rfl, rfl, rfl, rfl, rfl, trivial⟩, HS1, below_d HBr.out⟩
        have hb3 : decide (y.number < x.number) = true := decide_eq_true h2
        rcases HEM.out with he | ⟨m, hm, he⟩
        · have HS1 := Lib.hid (HTK.out ⟨h1, h2⟩ (Or.inl he))
          clear h1 h2
          subst he
          refine region_any (by kernel_rfl) ?_
          refine any_chain (fuel := 0) [(0, false), (1, false), (2, false), (3, false), (4, true), (5, false), (6, true), (7, false), (8, false), (9, false), (10, false), (11, false), (12, false), (13, true), (14, false), (15, true), (16, false), (17, false), (18, false), (19, false), (20, false), (21, false), (22, false), (23, false), (24, false), (25, false), (26, true), (27, false), (28, false), (29, false), (30, false), (31, true), (32, false), (33, false), (34, false)] [] rfl (by kernel_rfl) (by kernel_rfl) hF (fun _ _ d _ _ h => by cases d <;> exact h) (fun C hC => ?_)
          clear hF
          refine Chain.move rfl rfl rfl rfl rfl rfl ?_
          refine Chain.move rfl rfl rfl rfl rfl rfl ?_
          refine Chain.step (v := ?_) rfl rfl rfl rfl ?_ ?_
          rotate_left
          · intro a hF w' hw
            have s63 := hF.slot 63 _ rfl
            have s64 := hF.slot 64 _ rfl
            clear hw
            clear hF
            go_simp <;> with_reducible rfl
          refine Chain.step (v := ?_) rfl rfl rfl rfl ?_ ?_
          rotate_left
          · intro a hF w' hw
            have s65 := hF.slot 65 _ rfl
            clear hw
            clear hF
            go_simp <;> with_reducible rfl
          refine Chain.step (v := ?_) rfl rfl rfl rfl ?_ ?_
          rotate_left
          · intro a hF w' hw
            have s66 := hF.slot 66 _ rfl
            cases hw rfl
            clear hF
            go_simp <;> with_reducible rfl
          refine Chain.step (v := ?_) rfl rfl rfl rfl ?_ ?_
          rotate_left
          · intro a hF w' hw
            have s10 := hF.slot 10 _ rfl
            clear hw
            clear hF
            go_simp <;> with_reducible rfl
          refine Chain.step (v := ?_) rfl rfl rfl rfl ?_ ?_
          rotate_left
          · intro a hF w' hw
            have s68 := hF.slot 68 _ rfl
            cases hw rfl
            clear hF
            go_simp <;> with_reducible rfl
          refine Chain.step (v := ?_) rfl rfl rfl rfl ?_ ?_
          rotate_left
          · intro a hF w' hw
            have s67 := hF.slot 67 _ rfl
            have s69 := hF.slot 69 _ rfl
            clear hw
            clear hF
            go_simp <;> with_reducible rfl
          refine Chain.move rfl rfl rfl rfl rfl rfl ?_
          refine Chain.move rfl rfl rfl rfl rfl rfl ?_
          refine Chain.move rfl rfl rfl rfl rfl rfl ?_
          refine Chain.step (v := ?_) rfl rfl rfl rfl ?_ ?_
          rotate_left
          · intro a hF w' hw
            have s72 := hF.slot 72 _ rfl
            have s73 := hF.slot 73 _ rfl
            clear hw
            clear hF
            go_simp <;> with_reducible rfl
          refine Chain.step (v := ?_) rfl rfl rfl rfl ?_ ?_
          rotate_left
          · intro a hF w' hw
            have s74 := hF.slot 74 _ rfl
            clear hw
            clear hF
            go_simp <;> with_reducible rfl
          refine Chain.step (v := ?_) rfl rfl rfl rfl ?_ ?_
          rotate_left
          · intro a hF w' hw
            have s75 := hF.slot 75 _ rfl
            cases hw rfl
            clear hF
            go_simp <;> with_reducible rfl
          refine Chain.step (v := ?_) rfl rfl rfl rfl ?_ ?_
          rotate_left
          · intro a hF w' hw
            have s10 := hF.slot 10 _ rfl
            clear hw
            clear hF
            go_simp <;> with_reducible rfl
          refine Chain.step (v := ?_) rfl rfl rfl rfl ?_ ?_
          rotate_left
          · intro a hF w' hw
            have s77 := hF.slot 77 _ rfl
            cases hw rfl
            clear hF
            go_simp <;> with_reducible rfl
          refine Chain.step (v := ?_) rfl rfl rfl rfl ?_ ?_
          rotate_left
          · intro a hF w' hw
            have s76 := hF.slot 76 _ rfl
            have s78 := hF.slot 78 _ rfl
            clear hw
            clear hF
            go_simp <;> with_reducible rfl
          refine Chain.step (v := ?_) rfl rfl rfl rfl ?_ ?_
          rotate_left
          · intro a hF w' hw
            have s71 := hF.slot 71 _ rfl
            have s79 := hF.slot 79 _ rfl
            clear hw
            clear hF
            go_simp <;> with_reducible rfl
          refine Chain.move rfl rfl rfl rfl rfl rfl ?_
          refine Chain.move rfl rfl rfl rfl rfl rfl ?_
          refine Chain.step (v := ?_) rfl rfl rfl rfl ?_ ?_
          rotate_left
          · intro a hF w' hw
            have s82 := hF.slot 82 _ rfl
            clear hw
            clear hF
            go_simp <;> with_reducible rfl
          refine Chain.move rfl rfl rfl rfl rfl rfl ?_
          refine Chain.skip rfl rfl rfl rfl ?_
          refine Chain.skip rfl rfl rfl rfl ?_
          refine Chain.skip rfl rfl rfl rfl ?_
          refine Chain.skip rfl rfl rfl rfl ?_
          refine Chain.skip rfl rfl rfl rfl ?_
          refine Chain.skip rfl rfl rfl rfl ?_
          refine Chain.skip rfl rfl rfl rfl ?_
          refine Chain.skip rfl rfl rfl rfl ?_
          refine Chain.skip rfl rfl rfl rfl ?_
          refine Chain.skip rfl rfl rfl rfl ?_
          refine Chain.skip rfl rfl rfl rfl ?_
          refine Chain.step (v := ?_) rfl rfl rfl rfl ?_ ?_
          rotate_left
          · intro a hF w' hw
            have s84 := hF.slot 84 _ rfl
            have s95 := hF.slot 95 _ rfl
            clear hw
            clear hF
            go_simp <;> with_reducible rfl
          refine Chain.step (v := ?_) rfl rfl rfl rfl ?_ ?_
          rotate_left
          · intro a hF w' hw
            have s81 := hF.slot 81 _ rfl
            have s96 := hF.slot 96 _ rfl
            clear hw
            clear hF
            go_simp <;> with_reducible rfl
          refine hC _ (fun a hF => ?_)
          clear hC C
          refine any_end (by kernel_rfl) ?_
          replace hF := hF.sub (e' := [(1, _), (2, _), (7, _), (8, _), (9, _), (10, _), (12, _), (13, _), (97, _)]) ⟨rfl, rfl, rfl, rfl, rfl, rfl, rfl, rfl, rfl, trivial⟩
          refine hK _ _ ?_
          clear hK K
          refine cond_yes hF rfl ?_
          obtain ⟨d0, d1, y0, y1⟩ := HKK.out wr.drew.drew (below_d HB0.out)
          refine region_any (by kernel_rfl) ?_
          refine any_chain (fuel := 2) [(0, false), (1, false), (2, true), (3, false), (4, false), (5, false), (6, false), (7, true)] [8] rfl (by kernel_rfl) (by kernel_rfl) hF (fun _ _ d _ _ h => by cases d <;> exact h) (fun C hC => ?_)
          clear hF
          refine Chain.move rfl rfl rfl rfl rfl rfl ?_
          refine Chain.step (v := ?_) rfl rfl rfl rfl ?_ ?_
          rotate_left
          · intro a hF w' hw
            have s10 := hF.slot 10 _ rfl
            clear hw
            clear hF
            go_simp <;> with_reducible rfl
          refine Chain.step (v := ?_) rfl rfl rfl rfl ?_ ?_
          rotate_left
          · intro a hF w' hw
            have s99 := hF.slot 99 _ rfl
            cases hw rfl
            clear hF
            go_simp <;> with_reducible rfl
          refine Chain.move rfl rfl rfl rfl rfl rfl ?_
          refine Chain.move rfl rfl rfl rfl rfl rfl ?_
          refine Chain.step (v := ?_) rfl rfl rfl rfl ?_ ?_
          rotate_left
          · intro a hF w' hw
            have s101 := hF.slot 101 _ rfl
            have s102 := hF.slot 102 _ rfl
            clear hw
            clear hF
            go_simp <;> with_reducible rfl
          refine Chain.step (v := ?_) rfl rfl rfl rfl ?_ ?_
          rotate_left
          · intro a hF w' hw
            have s103 := hF.slot 103 _ rfl
            clear hw
            clear hF
            go_simp <;> with_reducible rfl
          refine Chain.step (v := ?_) rfl rfl rfl rfl ?_ ?_
          rotate_left
          · intro a hF w' hw
            have s104 := hF.slot 104 _ rfl
            cases hw rfl
            clear hF
            go_simp <;> with_reducible rfl
          refine hC _ (fun a hF => ?_)
          clear hC C
          refine any_one (n := 8) (fuel := 1) (by kernel_rfl) ?_
          refine op_call [_, _, _] rfl rfl hF rfl (by kernel_rfl) ⟨rfl, rfl, rfl, trivial⟩ (fun K hK => ?_)
          clear hF
          refine (HFK.out x.gate y.number _ (HOr.out.below.trans ((below_d HB0.out).mono HOr.out.below.size))).mono ?_
          rintro e w' ⟨rfl, rfl⟩
          refine hK _ _ (fun a hF => ?_)
          clear hK K
          refine any_chain (fuel := 0) [(9, false)] [] rfl (by kernel_rfl) (by kernel_rfl) hF (fun _ _ d _ _ h => by cases d <;> exact h) (fun C hC => ?_)
          clear hF
          refine Chain.assign rfl rfl rfl rfl rfl rfl ?_
          refine hC _ (fun a hF => ?_)
          clear hC C
          refine any_end (by kernel_rfl) ?_
          replace hF := hF.sub (e' := [(1, _), (2, _), (7, _), (8, _), (9, _), (10, _), (12, _), (13, _)]) ⟨rfl, rfl, rfl, rfl, rfl, rfl, rfl, rfl, trivial⟩
          exact hKG _ _ ⟨_, hF, HS1.out, below_d (below_d HBr.out)⟩
        · subst he
          have HS0 := Lib.hid (fun h => HSK.out (Or.inr ⟨m, hm, rfl, h⟩))
          have HS1 := Lib.hid (fun h => HTK.out ⟨h1, h2⟩ (Or.inr ⟨m, hm, rfl, h⟩))
          have hmi : (m : Int) < X.length := by omega
          have z0 := HYM.out m hm rfl wr.drew HB0.out
          generalize X[m].number = z at *
          clear h1 h2
          by_cases h3 : z < y.number
          · have hb4 : decide (z < y.number) = true := decide_eq_true h3
            have HS1 := Lib.hid (HS1.out h3)
            clear h3
            refine region_any (by kernel_rfl) ?_
            refine any_chain (fuel := 0) [(0, false), (1, false), (2, false), (3, false), (4, true), (5, false), (6, true), (7, false), (8, false), (9, false), (10, false), (11, false), (12, false), (13, true), (14, false), (15, true), (16, false), (17, false), (18, false), (19, false), (20, false), (21, false), (22, false), (23, false), (24, false), (25, false), (26, true), (27, false), (28, false), (29, false), (30, false), (31, true), (32, false), (33, false), (34, false)] [] rfl (by kernel_rfl) (by kernel_rfl) hF (fun _ _ d _ _ h => by cases d <;> exact h) (fun C hC => ?_)
            clear hF
            refine Chain.move rfl rfl rfl rfl rfl rfl ?_
            refine Chain.move rfl rfl rfl rfl rfl rfl ?_
            refine Chain.step (v := ?_) rfl rfl rfl rfl ?_ ?_
            rotate_left
            · intro a hF w' hw
              have s63 := hF.slot 63 _ rfl
              have s64 := hF.slot 64 _ rfl
              clear hw
              clear hF
              go_simp <;> with_reducible rfl
            refine Chain.step (v := ?_) rfl rfl rfl rfl ?_ ?_
            rotate_left
            · intro a hF w' hw
              have s65 := hF.slot 65 _ rfl
              clear hw
              clear hF
              go_simp <;> with_reducible rfl
            refine Chain.step (v := ?_) rfl rfl rfl rfl ?_ ?_
            rotate_left
            · intro a hF w' hw
              have s66 := hF.slot 66 _ rfl
              cases hw rfl
              clear hF
              go_simp <;> with_reducible rfl
            refine Chain.step (v := ?_) rfl rfl rfl rfl ?_ ?_
            rotate_left
            · intro a hF w' hw
              have s10 := hF.slot 10 _ rfl
              clear hw
              clear hF
              go_simp <;> with_reducible rfl
            refine Chain.step (v := ?_) rfl rfl rfl rfl ?_ ?_
            rotate_left
            · intro a hF w' hw
              have s68 := hF.slot 68 _ rfl
              cases hw rfl
              clear hF
              go_simp <;> with_reducible rfl
            refine Chain.step (v := ?_) rfl rfl rfl rfl ?_ ?_
            rotate_left
            · intro a hF w' hw
              have s67 := hF.slot 67 _ rfl
              have s69 := hF.slot 69 _ rfl
              clear hw
              clear hF
              go_simp <;> with_reducible rfl
            refine Chain.move rfl rfl rfl rfl rfl rfl ?_
            refine Chain.move rfl rfl rfl rfl rfl rfl ?_
            refine Chain.move rfl rfl rfl rfl rfl rfl ?_
            refine Chain.step (v := ?_) rfl rfl rfl rfl ?_ ?_
            rotate_left
            · intro a hF w' hw
              have s72 := hF.slot 72 _ rfl
              have s73 := hF.slot 73 _ rfl
              clear hw
              clear hF
              go_simp <;> with_reducible rfl
            refine Chain.step (v := ?_) rfl rfl rfl rfl ?_ ?_
            rotate_left
            · intro a hF w' hw
              have s74 := hF.slot 74 _ rfl
              clear hw
              clear hF
              go_simp <;> with_reducible rfl
            refine Chain.step (v := ?_) rfl rfl rfl rfl ?_ ?_
            rotate_left
            · intro a hF w' hw
              have s75 := hF.slot 75 _ rfl
              cases hw rfl
              clear hF
              go_simp <;> with_reducible rfl
            refine Chain.step (v := ?_) rfl rfl rfl rfl ?_ ?_
            rotate_left
            · intro a hF w' hw
              have s10 := hF.slot 10 _ rfl
              clear hw
              clear hF
              go_simp <;> with_reducible rfl
            refine Chain.step (v := ?_) rfl rfl rfl rfl ?_ ?_
            rotate_left
            · intro a hF w' hw
              have s77 := hF.slot 77 _ rfl
              cases hw rfl
              clear hF
              go_simp <;> with_reducible rfl
            refine Chain.step (v := ?_) rfl rfl rfl rfl ?_ ?_
            rotate_left
            · intro a hF w' hw
              have s76 := hF.slot 76 _ rfl
              have s78 := hF.slot 78 _ rfl
              clear hw
              clear hF
              go_simp <;> with_reducible rfl
            refine Chain.step (v := ?_) rfl rfl rfl rfl ?_ ?_
            rotate_left
            · intro a hF w' hw
              have s71 := hF.slot 71 _ rfl
              have s79 := hF.slot 79 _ rfl
              clear hw
              clear hF
              go_simp <;> with_reducible rfl
            refine Chain.move rfl rfl rfl rfl rfl rfl ?_
            refine Chain.move rfl rfl rfl rfl rfl rfl ?_
            refine Chain.step (v := ?_) rfl rfl rfl rfl ?_ ?_
            rotate_left
            · intro a hF w' hw
              have s82 := hF.slot 82 _ rfl
              clear hw
              clear hF
              go_simp <;> with_reducible rfl
            refine Chain.move rfl rfl rfl rfl rfl rfl ?_
            refine Chain.move rfl rfl rfl rfl rfl rfl ?_
            refine Chain.move rfl rfl rfl rfl rfl rfl ?_
            refine Chain.step (v := ?_) rfl rfl rfl rfl ?_ ?_
            rotate_left
            · intro a hF w' hw
              have s85 := hF.slot 85 _ rfl
              have s86 := hF.slot 86 _ rfl
              clear hw
              clear hF
              go_simp <;> with_reducible rfl
            refine Chain.step (v := ?_) rfl rfl rfl rfl ?_ ?_
            rotate_left
            · intro a hF w' hw
              have s87 := hF.slot 87 _ rfl
              clear hw
              clear hF
              go_simp <;> with_reducible rfl
            refine Chain.step (v := ?_) rfl rfl rfl rfl ?_ ?_
            rotate_left
            · intro a hF w' hw
              have s88 := hF.slot 88 _ rfl
              cases hw rfl
              clear hF
              go_simp <;> with_reducible rfl
            refine Chain.move rfl rfl rfl rfl rfl rfl ?_
            refine Chain.move rfl rfl rfl rfl rfl rfl ?_
            refine Chain.step (v := ?_) rfl rfl rfl rfl ?_ ?_
            rotate_left
            · intro a hF w' hw
              have s90 := hF.slot 90 _ rfl
              have s91 := hF.slot 91 _ rfl
              clear hw
              clear hF
              go_simp <;> with_reducible rfl
            refine Chain.step (v := ?_) rfl rfl rfl rfl ?_ ?_
            rotate_left
            · intro a hF w' hw
              have s92 := hF.slot 92 _ rfl
              clear hw
              clear hF
              go_simp <;> with_reducible rfl
            refine Chain.step (v := ?_) rfl rfl rfl rfl ?_ ?_
            rotate_left
            · intro a hF w' hw
              have s93 := hF.slot 93 _ rfl
              cases hw rfl
              clear hF
              go_simp <;> with_reducible rfl
            refine Chain.step (v := ?_) rfl rfl rfl rfl ?_ ?_
            rotate_left
            · intro a hF w' hw
              have s89 := hF.slot 89 _ rfl
              have s94 := hF.slot 94 _ rfl
              clear hw
              clear hF
              go_simp <;> with_reducible rfl
            refine Chain.step (v := ?_) rfl rfl rfl rfl ?_ ?_
            rotate_left
            · intro a hF w' hw
              have s84 := hF.slot 84 _ rfl
              have s95 := hF.slot 95 _ rfl
              clear hw
              clear hF
              go_simp <;> with_reducible rfl
            refine Chain.step (v := ?_) rfl rfl rfl rfl ?_ ?_
            rotate_left
            · intro a hF w' hw
              have s81 := hF.slot 81 _ rfl
              have s96 := hF.slot 96 _ rfl
              clear hw
              clear hF
              go_simp <;> with_reducible rfl
            refine hC _ (fun a hF => ?_)
            clear hC C
            refine any_end (by kernel_rfl) ?_
            replace hF := hF.sub (e' := [(1, _), (2, _), (7, _), (8, _), (9, _), (10, _), (12, _), (13, _), (97, _)]) ⟨rfl, rfl, rfl, rfl, rfl, rfl, rfl, rfl, rfl, trivial⟩
            refine hK _ _ ?_
            clear hK K
            refine cond_yes hF rfl ?_
            obtain ⟨d0, d1, y0, y1⟩ := HKK.out wr.drew.drew (below_d HB0.out)
            refine region_any (by kernel_rfl) ?_
            refine any_chain (fuel := 2) [(0, false), (1, false), (2, true), (3, false), (4, false), (5, false), (6, false), (7, true)] [8] rfl (by kernel_rfl) (by kernel_rfl) hF (fun _ _ d _ _ h => by cases d <;> exact h) (fun C hC => ?_)
            clear hF
            refine Chain.move rfl rfl rfl rfl rfl rfl ?_
            refine Chain.step (v := ?_) rfl rfl rfl rfl ?_ ?_
            rotate_left
            · intro a hF w' hw
              have s10 := hF.slot 10 _ rfl
              clear hw
              clear hF
              go_simp <;> with_reducible rfl
            refine Chain.step (v := ?_) rfl rfl rfl rfl ?_ ?_
            rotate_left
            · intro a hF w' hw
              have s99 := hF.slot 99 _ rfl
              cases hw rfl
              clear hF
              go_simp <;> with_reducible rfl
            refine Chain.move rfl rfl rfl rfl rfl rfl ?_
            refine Chain.move rfl rfl rfl rfl rfl rfl ?_
            refine Chain.step (v := ?_) rfl rfl rfl rfl ?_ ?_
            rotate_left
            · intro a hF w' hw
              have s101 := hF.slot 101 _ rfl
              have s102 := hF.slot 102 _ rfl
              clear hw
              clear hF
              go_simp <;> with_reducible rfl
            refine Chain.step (v := ?_) rfl rfl rfl rfl ?_ ?_
            rotate_left
            · intro a hF w' hw
              have s103 := hF.slot 103 _ rfl
              clear hw
              clear hF
              go_simp <;> with_reducible rfl
            refine Chain.step (v := ?_) rfl rfl rfl rfl ?_ ?_
            rotate_left
            · intro a hF w' hw
              have s104 := hF.slot 104 _ rfl
              cases hw rfl
              clear hF
              go_simp <;> with_reducible rfl
            refine hC _ (fun a hF => ?_)
            clear hC C
            refine any_one (n := 8) (fuel := 1) (by kernel_rfl) ?_
            refine op_call [_, _, _] rfl rfl hF rfl (by kernel_rfl) ⟨rfl, rfl, rfl, trivial⟩ (fun K hK => ?_)
            clear hF
            refine (HFK.out x.gate y.number _ (HOr.out.below.trans ((below_d HB0.out).mono HOr.out.below.size))).mono ?_
            rintro e w' ⟨rfl, rfl⟩
            refine hK _ _ (fun a hF => ?_)
            clear hK K
            refine any_chain (fuel := 0) [(9, false)] [] rfl (by kernel_rfl) (by kernel_rfl) hF (fun _ _ d _ _ h => by cases d <;> exact h) (fun C hC => ?_)
            clear hF
            refine Chain.assign rfl rfl rfl rfl rfl rfl ?_
            refine hC _ (fun a hF => ?_)
            clear hC C
            refine any_end (by kernel_rfl) ?_
            replace hF := hF.sub (e' := [(1, _), (2, _), (7, _), (8, _), (9, _), (10, _), (12, _), (13, _)]) ⟨rfl, rfl, rfl, rfl, rfl, rfl, rfl, rfl, trivial⟩
            exact hKG _ _ ⟨_, hF, HS1.out, below_d (below_d HBr.out)⟩
          · have hb4 : decide (z < y.number) = false := decide_eq_false h3
            have HS0 := Lib.hid (HS0.out (by omega))
            clear h3
            refine region_any (by kernel_rfl) ?_
            refine any_chain (fuel := 0) [(0, false), (1, false), (2, false), (3, false), (4, true), (5, false), (6, true), (7, false), (8, false), (9, false), (10, false), (11, false), (12, false), (13, true), (14, false), (15, true), (16, false), (17, false), (18, false), (19, false), (20, false), (21, false), (22, false), (23, false), (24, false), (25, false), (26, true), (27, false), (28, false), (29, false), (30, false), (31, true), (32, false), (33, false), (34, false)] [] rfl (by kernel_rfl) (by kernel_rfl) hF (fun _ _ d _ _ h => by cases d <;> exact h) (fun C hC => ?_)
            clear hF
            refine Chain.move rfl rfl rfl rfl rfl rfl ?_
            refine Chain.move rfl rfl rfl rfl rfl rfl ?_
            refine Chain.step (v := ?_) rfl rfl rfl rfl ?_ ?_
            rotate_left
            · intro a hF w' hw
              have s63 := hF.slot 63 _ rfl
              have s64 := hF.slot 64 _ rfl
              clear hw
              clear hF
              go_simp <;> with_reducible rfl
            refine Chain.step (v := ?_) rfl rfl rfl rfl ?_ ?_
            rotate_left
            · intro a hF w' hw
              have s65 := hF.slot 65 _ rfl
              clear hw
              clear hF
              go_simp <;> with_reducible rfl
            refine Chain.step (v := ?_) rfl rfl rfl rfl ?_ ?_
            rotate_left
            · intro a hF w' hw
              have s66 := hF.slot 66 _ rfl
              cases hw rfl
              clear hF
              go_simp <;> with_reducible rfl
            refine Chain.step (v := ?_) rfl rfl rfl rfl ?_ ?_
            rotate_left
            · intro a hF w' hw
              have s10 := hF.slot 10 _ rfl
              clear hw
              clear hF
              go_simp <;> with_reducible rfl
            refine Chain.step (v := ?_) rfl rfl rfl rfl ?_ ?_
            rotate_left
            · intro a hF w' hw
              have s68 := hF.slot 68 _ rfl
              cases hw rfl
              clear hF
              go_simp <;> with_reducible rfl
            refine Chain.step (v := ?_) rfl rfl rfl rfl ?_ ?_
            rotate_left
            · intro a hF w' hw
              have s67 := hF.slot 67 _ rfl
              have s69 := hF.slot 69 _ rfl
              clear hw
              clear hF
              go_simp <;> with_reducible rfl
            refine Chain.move rfl rfl rfl rfl rfl rfl ?_
            refine Chain.move rfl rfl rfl rfl rfl rfl ?_
            refine Chain.move rfl rfl rfl rfl rfl rfl ?_
            refine Chain.step (v := ?_) rfl rfl rfl rfl ?_ ?_
            rotate_left
            · intro a hF w' hw
              have s72 := hF.slot 72 _ rfl
              have s73 := hF.slot 73 _ rfl
              clear hw
              clear hF
              go_simp <;> with_reducible rfl
            refine Chain.step (v := ?_) rfl rfl rfl rfl ?_ ?_
            rotate_left
            · intro a hF w' hw
              have s74 := hF.slot 74 _ rfl
              clear hw
              clear hF
              go_simp <;> with_reducible rfl
            refine Chain.step (v := ?_) rfl rfl rfl rfl ?_ ?_
            rotate_left
            · intro a hF w' hw
              have s75 := hF.slot 75 _ rfl
              cases hw rfl
              clear hF
              go_simp <;> with_reducible rfl
            refine Chain.step (v := ?_) rfl rfl rfl rfl ?_ ?_
            rotate_left
            · intro a hF w' hw
              have s10 := hF.slot 10 _ rfl
              clear hw
              clear hF
              go_simp <;> with_reducible rfl
            refine Chain.step (v := ?_) rfl rfl rfl rfl ?_ ?_
            rotate_left
            · intro a hF w' hw
              have s77 := hF.slot 77 _ rfl
              cases hw rfl
              clear hF
              go_simp <;> with_reducible rfl
            refine Chain.step (v := ?_) rfl rfl rfl rfl ?_ ?_
            rotate_left
            · intro a hF w' hw
              have s76 := hF.slot 76 _ rfl
              have s78 := hF.slot 78 _ rfl
              clear hw
              clear hF
              go_simp <;> with_reducible rfl
            refine Chain.step (v := ?_) rfl rfl rfl rfl ?_ ?_
            rotate_left
            · intro a hF w' hw
              have s71 := hF.slot 71 _ rfl
              have s79 := hF.slot 79 _ rfl
              clear hw
              clear hF
              go_simp <;> with_reducible rfl
            refine Chain.move rfl rfl rfl rfl rfl rfl ?_
            refine Chain.move rfl rfl rfl rfl rfl rfl ?_
            refine Chain.step (v := ?_) rfl rfl rfl rfl ?_ ?_
            rotate_left
            · intro a hF w' hw
              have s82 := hF.slot 82 _ rfl
              clear hw
              clear hF
              go_simp <;> with_reducible rfl
            refine Chain.move rfl rfl rfl rfl rfl rfl ?_
            refine Chain.move rfl rfl rfl rfl rfl rfl ?_
            refine Chain.move rfl rfl rfl rfl rfl rfl ?_
            refine Chain.step (v := ?_) rfl rfl rfl rfl ?_ ?_
            rotate_left
            · intro a hF w' hw
              have s85 := hF.slot 85 _ rfl
              have s86 := hF.slot 86 _ rfl
              clear hw
              clear hF
              go_simp <;> with_reducible rfl
            refine Chain.step (v := ?_) rfl rfl rfl rfl ?_ ?_
            rotate_left
            · intro a hF w' hw
              have s87 := hF.slot 87 _ rfl
              clear hw
              clear hF
              go_simp <;> with_reducible rfl
            refine Chain.step (v := ?_) rfl rfl rfl rfl ?_ ?_
            rotate_left
            · intro a hF w' hw
              have s88 := hF.slot 88 _ rfl
              cases hw rfl
              clear hF
              go_simp <;> with_reducible rfl
            refine Chain.move rfl rfl rfl rfl rfl rfl ?_
            refine Chain.move rfl rfl rfl rfl rfl rfl ?_
            refine Chain.step (v := ?_) rfl rfl rfl rfl ?_ ?_
            rotate_left
            · intro a hF w' hw
              have s90 := hF.slot 90 _ rfl
              have s91 := hF.slot 91 _ rfl
              clear hw
              clear hF
              go_simp <;> with_reducible rfl
            refine Chain.step (v := ?_) rfl rfl rfl rfl ?_ ?_
            rotate_left
            · intro a hF w' hw
              have s92 := hF.slot 92 _ rfl
              clear hw
              clear hF
              go_simp <;> with_reducible rfl
            refine Chain.step (v := ?_) rfl rfl rfl rfl ?_ ?_
            rotate_left
            · intro a hF w' hw
              have s93 := hF.slot 93 _ rfl
              cases hw rfl
              clear hF
              go_simp <;> with_reducible rfl
            refine Chain.step (v := ?_) rfl rfl rfl rfl ?_ ?_
            rotate_left
            · intro a hF w' hw
              have s89 := hF.slot 89 _ rfl
              have s94 := hF.slot 94 _ rfl
              clear hw
              clear hF
              go_simp <;> with_reducible rfl
            refine Chain.step (v := ?_) rfl rfl rfl rfl ?_ ?_
            rotate_left
            · intro a hF w' hw
              have s84 := hF.slot 84 _ rfl
              have s95 := hF.slot 95 _ rfl
              clear hw
              clear hF
              go_simp <;> with_reducible rfl
            refine Chain.step (v := ?_) rfl rfl rfl rfl ?_ ?_
            rotate_left
            · intro a hF w' hw
              have s81 := hF.slot 81 _ rfl
              have s96 := hF.slot 96 _ rfl
              clear hw
              clear hF
              go_simp <;> with_reducible rfl
            refine hC _ (fun a hF => ?_)
            clear hC C
            refine any_end (by kernel_rfl) ?_
            replace hF := hF.sub (e' := [(1, _), (2, _), (7, _), (8, _), (9, _), (10, _), (12, _), (13, _), (97, _)]) ⟨rfl, rfl, rfl, rfl, rfl, rfl, rfl, rfl, rfl, trivial⟩
            refine hK _ _ ?_
            clear hK K
            refine cond_no hF rfl ?_
            refine wp_skip ?_
            exact hKG _ _ ⟨_, hF.sub ⟨rfl, rfl, rfl, rfl, rfl, rfl, rfl, rfl, trivial⟩, HS0.out, below_d HBr.out⟩
      · clear hF
        rintro a wr ⟨e, hF, HLS, HBr⟩
        have HOr := Lib.hid (HO2.out.down HBr.out)
        have HGr : Hid (XIn wr gx x) := HGX.out.down HBr.out
        have HP1 := Lib.hid (fun b => HF2.out e HLS.out b)
        have HEM : Hid (e = -1 ∨ ∃ (m : Nat) (hm : m < X.length), e = m) := by
          rcases HLS.out with ⟨h, _⟩ | ⟨m, hm, h, _⟩
          · exact Or.inl h
          · exact Or.inr ⟨m, hm, h⟩
        refine wp_seq_k (fun K hK => ?_)
        rcases HEM.out with he | ⟨m, hm, he⟩
        · subst he
          have HO3 : Hid (BlO w1 (4 * i + 1) (fun b => (∃ j, j < i ∧ PA1 G st X j b) ∨ P1 X i b) v8 wr) := HOr.out.iff (by omega) fun b => ⟨Or.inl, fun h => h.elim id (fun h => by
            obtain ⟨m, _, e, _⟩ := (HP1.out b).mp h
            omega)⟩
          refine region_any (by kernel_rfl) ?_
          refine any_chain (fuel := 0) [(0, false), (1, false), (2, false), (3, false), (4, true), (5, false), (6, false), (7, false), (8, false), (9, true), (10, false), (11, false)] [] rfl (by kernel_rfl) (by kernel_rfl) hF (fun _ _ d _ _ h => by cases d <;> exact h) (fun C hC => ?_)
          clear hF
          refine Chain.move rfl rfl rfl rfl rfl rfl ?_
          refine Chain.step (v := ?_) rfl rfl rfl rfl ?_ ?_
          rotate_left
          · intro a hF w' hw
            have s107 := hF.slot 107 _ rfl
            clear hw
            clear hF
            go_simp <;> with_reducible rfl
          refine Chain.move rfl rfl rfl rfl rfl rfl ?_
          refine Chain.skip rfl rfl rfl rfl ?_
          refine Chain.skip rfl rfl rfl rfl ?_
          refine Chain.skip rfl rfl rfl rfl ?_
          refine Chain.skip rfl rfl rfl rfl ?_
          refine Chain.skip rfl rfl rfl rfl ?_
          refine Chain.skip rfl rfl rfl rfl ?_
          refine Chain.skip rfl rfl rfl rfl ?_
          refine Chain.skip rfl rfl rfl rfl ?_
          refine Chain.step (v := ?_) rfl rfl rfl rfl ?_ ?_
          rotate_left
          · intro a hF w' hw
            have s109 := hF.slot 109 _ rfl
            have s117 := hF.slot 117 _ rfl
            clear hw
            clear hF
            go_simp <;> with_reducible rfl
          refine hC _ (fun a hF => ?_)
          clear hC C
          refine any_end (by kernel_rfl) ?_
          replace hF := hF.sub (e' := [(1, _), (2, _), (7, _), (8, _), (9, _), (10, _), (12, _), (118, _)]) ⟨rfl, rfl, rfl, rfl, rfl, rfl, rfl, rfl, trivial⟩
          refine hK _ _ ?_
          clear hK K
          refine cond_no hF rfl ?_
          refine wp_skip ?_
          exact hKD _ _ ⟨_, hF.sub ⟨rfl, rfl, rfl, rfl, rfl, rfl, trivial⟩, HO3.out.down (below_d (Below.refl _ _)), HGr.out⟩
        · subst he
          have HKG : Hid (∀ w' : World, Below w1.heap.size w1 w' → XIn w' gx x → w'.cell? ⟨gx, 0, none⟩ = some (.int .i64 x.gate) ∧ w'.cell? ⟨gx, 1, none⟩ = some (.int .i64 x.number) ∧ w'.cell? ⟨gx, 2, none⟩ = some (.int .i64 x.time) ∧ w'.cell? ⟨gx, 3, none⟩ = some (.int .i64 x.serial) ∧ w'.cell? ⟨b1, o1 + m * 6 + 1, none⟩ = some (.int .i64 X[m].number) ∧ w'.cell? ⟨b1, o1 + m * 6 + 2, none⟩ = some (.int .i64 X[m].time)) := fun w' hb hE => by
            obtain ⟨y0, y1, y2, y3, _⟩ := hE.cells
            obtain ⟨_, d1, d2, _⟩ := HXm.out m hm w' hb
            exact ⟨y0, y1, y2, y3, d1, d2⟩
          have HP1 := Lib.hid (fun b => (HP1.out b).trans ⟨fun ⟨m', hm', e, h⟩ => by
            have : m = m' := by omega
            subst this
            exact h, fun h => ⟨m, hm, rfl, h⟩⟩)
          have hmi : (m : Int) < X.length := by omega
          generalize X[m] = y at *
          have HBd : Hid (Below w1.heap.size w1 wr.drew) := below_d HOr.out.below
          obtain ⟨y0, y1, y2, y3, d1, d2⟩ := HKG.out wr.drew HBd.out HGr.out
          by_cases h3 : x.time < y.time
          · have hb4 : decide (x.time < y.time) = true := decide_eq_true h3
            have HQ : Hid (∀ b, P1 X i b ↔ b = orderB x y) := fun b => (HP1.out b).trans ⟨fun h => h.2, fun h => ⟨h3, h⟩⟩
            clear h3
            refine region_any (by kernel_rfl) ?_
            refine any_chain (fuel := 0) [(0, false), (1, false), (2, false), (3, false), (4, true), (5, false), (6, false), (7, false), (8, false), (9, true), (10, false), (11, false)] [] rfl (by kernel_rfl) (by kernel_rfl) hF (fun _ _ d _ _ h => by cases d <;> exact h) (fun C hC => ?_)
            clear hF
            refine Chain.move rfl rfl rfl rfl rfl rfl ?_
            refine Chain.step (v := ?_) rfl rfl rfl rfl ?_ ?_
            rotate_left
            · intro a hF w' hw
              have s107 := hF.slot 107 _ rfl
              clear hw
              clear hF
              go_simp <;> with_reducible rfl
            refine Chain.move rfl rfl rfl rfl rfl rfl ?_
            refine Chain.step (v := ?_) rfl rfl rfl rfl ?_ ?_
            rotate_left
            · intro a hF w' hw
              have s10 := hF.slot 10 _ rfl
              clear hw
              clear hF
              go_simp <;> with_reducible rfl
            refine Chain.step (v := ?_) rfl rfl rfl rfl ?_ ?_
            rotate_left
            · intro a hF w' hw
              have s110 := hF.slot 110 _ rfl
              cases hw rfl
              clear hF
              go_simp <;> with_reducible rfl
            refine Chain.move rfl rfl rfl rfl rfl rfl ?_
            refine Chain.move rfl rfl rfl rfl rfl rfl ?_
            refine Chain.step (v := ?_) rfl rfl rfl rfl ?_ ?_
            rotate_left
            · intro a hF w' hw
              have s112 := hF.slot 112 _ rfl
              have s113 := hF.slot 113 _ rfl
              clear hw
              clear hF
              go_simp <;> with_reducible rfl
            refine Chain.step (v := ?_) rfl rfl rfl rfl ?_ ?_
            rotate_left
            · intro a hF w' hw
              have s114 := hF.slot 114 _ rfl
              clear hw
              clear hF
              go_simp <;> with_reducible rfl
            refine Chain.step (v := ?_) rfl rfl rfl rfl ?_ ?_
            rotate_left
            · intro a hF w' hw
              have s115 := hF.slot 115 _ rfl
              cases hw rfl
              clear hF
              go_simp <;> with_reducible rfl
            refine Chain.step (v := ?_) rfl rfl rfl rfl ?_ ?_
            rotate_left
            · intro a hF w' hw
              have s111 := hF.slot 111 _ rfl
              have s116 := hF.slot 116 _ rfl
              clear hw
              clear hF
              go_simp <;> with_reducible rfl
            refine Chain.step (v := ?_) rfl rfl rfl rfl ?_ ?_
            rotate_left
            · intro a hF w' hw
              have s109 := hF.slot 109 _ rfl
              have s117 := hF.slot 117 _ rfl
              clear hw
              clear hF
              go_simp <;> with_reducible rfl
            refine hC _ (fun a hF => ?_)
            clear hC C
            refine any_end (by kernel_rfl) ?_
            replace hF := hF.sub (e' := [(1, _), (2, _), (7, _), (8, _), (9, _), (10, _), (12, _), (118, _)]) ⟨rfl, rfl, rfl, rfl, rfl, rfl, rfl, rfl, trivial⟩
            refine hK _ _ ?_
            clear hK K
            refine cond_yes hF rfl ?_
            obtain ⟨y0, y1, y2, y3, d1, d2⟩ := HKG.out wr.drew.drew (below_d HBd.out) HGr.out
            refine region_any (by kernel_rfl) ?_
            refine any_chain (fuel := 2) [(0, false), (1, false), (2, true), (3, false), (4, true), (5, false), (6, true), (7, false), (8, true), (9, false), (10, false), (11, false), (12, false), (13, true), (14, false)] [15] rfl (by kernel_rfl) (by kernel_rfl) hF (fun _ _ d _ _ h => by cases d <;> exact h) (fun C hC => ?_)
            clear hF
            refine Chain.move rfl rfl rfl rfl rfl rfl ?_
            refine Chain.step (v := ?_) rfl rfl rfl rfl ?_ ?_
            rotate_left
            · intro a hF w' hw
              have s10 := hF.slot 10 _ rfl
              clear hw
              clear hF
              go_simp <;> with_reducible rfl
            refine Chain.step (v := ?_) rfl rfl rfl rfl ?_ ?_
            rotate_left
            · intro a hF w' hw
              have s120 := hF.slot 120 _ rfl
              cases hw rfl
              clear hF
              go_simp <;> with_reducible rfl
            refine Chain.step (v := ?_) rfl rfl rfl rfl ?_ ?_
            rotate_left
            · intro a hF w' hw
              have s10 := hF.slot 10 _ rfl
              clear hw
              clear hF
              go_simp <;> with_reducible rfl
            refine Chain.step (v := ?_) rfl rfl rfl rfl ?_ ?_
            rotate_left
            · intro a hF w' hw
              have s122 := hF.slot 122 _ rfl
              cases hw rfl
              clear hF
              go_simp <;> with_reducible rfl
            refine Chain.step (v := ?_) rfl rfl rfl rfl ?_ ?_
            rotate_left
            · intro a hF w' hw
              have s10 := hF.slot 10 _ rfl
              clear hw
              clear hF
              go_simp <;> with_reducible rfl
            refine Chain.step (v := ?_) rfl rfl rfl rfl ?_ ?_
            rotate_left
            · intro a hF w' hw
              have s124 := hF.slot 124 _ rfl
              cases hw rfl
              clear hF
              go_simp <;> with_reducible rfl
            refine Chain.step (v := ?_) rfl rfl rfl rfl ?_ ?_
            rotate_left
            · intro a hF w' hw
              have s10 := hF.slot 10 _ rfl
              clear hw
              clear hF
              go_simp <;> with_reducible rfl
            refine Chain.step (v := ?_) rfl rfl rfl rfl ?_ ?_
            rotate_left
            · intro a hF w' hw
              have s126 := hF.slot 126 _ rfl
              cases hw rfl
              clear hF
              go_simp <;> with_reducible rfl
            refine Chain.move rfl rfl rfl rfl rfl rfl ?_
            refine Chain.move rfl rfl rfl rfl rfl rfl ?_
            refine Chain.step (v := ?_) rfl rfl rfl rfl ?_ ?_
            rotate_left
            · intro a hF w' hw
              have s128 := hF.slot 128 _ rfl
              have s129 := hF.slot 129 _ rfl
              clear hw
              clear hF
              go_simp <;> with_reducible rfl
            refine Chain.step (v := ?_) rfl rfl rfl rfl ?_ ?_
            rotate_left
            · intro a hF w' hw
              have s130 := hF.slot 130 _ rfl
              clear hw
              clear hF
              go_simp <;> with_reducible rfl
            refine Chain.step (v := ?_) rfl rfl rfl rfl ?_ ?_
            rotate_left
            · intro a hF w' hw
              have s131 := hF.slot 131 _ rfl
              cases hw rfl
              clear hF
              go_simp <;> with_reducible rfl
            refine Chain.step (v := ?_) rfl rfl rfl rfl ?_ ?_
            rotate_left
            · intro a hF w' hw
              have s121 := hF.slot 121 _ rfl
              have s123 := hF.slot 123 _ rfl
              have s125 := hF.slot 125 _ rfl
              have s127 := hF.slot 127 _ rfl
              have s132 := hF.slot 132 _ rfl
              clear hw
              clear hF
              go_simp <;> with_reducible rfl
            refine hC _ (fun a hF => ?_)
            clear hC C
            refine any_one (n := 15) (fuel := 1) (by kernel_rfl) ?_
            refine op_call [_, _] rfl rfl hF rfl (by kernel_rfl) ⟨rfl, rfl, trivial⟩ (fun K hK => ?_)
            clear hF
            refine (blo_add (HOr.out.down (below_d (below_d (Below.refl _ _)))) (by omega) (orderB x y)).mono ?_
            rintro e w5 ⟨v5, rfl, hO, hfar⟩
            refine hK _ _ (fun a hF => ?_)
            clear hK K
            refine any_chain (fuel := 0) [(16, false)] [] rfl (by kernel_rfl) (by kernel_rfl) hF (fun _ _ d _ _ h => by cases d <;> exact h) (fun C hC => ?_)
            clear hF
            refine Chain.assign rfl rfl rfl rfl rfl rfl ?_
            refine hC _ (fun a hF => ?_)
            clear hC C
            refine any_end (by kernel_rfl) ?_
            replace hF := hF.sub (e' := [(1, _), (2, _), (7, _), (8, _), (9, _), (10, _)]) ⟨rfl, rfl, rfl, rfl, rfl, rfl, trivial⟩
            refine hKD _ _ ⟨_, hF, hO.iff (by omega) fun b => ?_, hfar _ _ _ _ HGr.out (by decide)⟩
            rw [HQ.out b]
            exact ⟨fun h => h.elim Or.inr Or.inl, fun h => h.elim Or.inr Or.inl⟩
          · have hb4 : decide (x.time < y.time) = false := decide_eq_false h3
            have HO3 : Hid (BlO w1 (4 * i + 1) (fun b => (∃ j, j < i ∧ PA1 G st X j b) ∨ P1 X i b) v8 wr) := HOr.out.iff (by omega) fun b => ⟨Or.inl, fun h => h.elim id (fun h => absurd ((HP1.out b).mp h).1 h3)⟩
            clear h3
            refine region_any (by kernel_rfl) ?_
            refine any_chain (fuel := 0) [(0, false), (1, false), (2, false), (3, false), (4, true), (5, false), (6, false), (7, false), (8, false), (9, true), (10, false), (11, false)] [] rfl (by kernel_rfl) (by kernel_rfl) hF (fun _ _ d _ _ h => by cases d <;> exact h) (fun C hC => ?_)
            clear hF
            refine Chain.move rfl rfl rfl rfl rfl rfl ?_
            refine Chain.step (v := ?_) rfl rfl rfl rfl ?_ ?_
            rotate_left
            · intro a hF w' hw
              have s107 := hF.slot 107 _ rfl
              clear hw
              clear hF
              go_simp <;> with_reducible rfl
            refine Chain.move rfl rfl rfl rfl rfl rfl ?_
            refine Chain.step (v := ?_) rfl rfl rfl rfl ?_ ?_
            rotate_left
            · intro a hF w' hw
              have s10 := hF.slot 10 _ rfl
              clear hw
              clear hF
              go_simp <;> with_reducible rfl
            refine Chain.step (v := ?_) rfl rfl rfl rfl ?_ ?_
            rotate_left
            · intro a hF w' hw
              have s110 := hF.slot 110 _ rfl
              cases hw rfl
              clear hF
              go_simp <;> with_reducible rfl
            refine Chain.move rfl rfl rfl rfl rfl rfl ?_
            refine Chain.move rfl rfl rfl rfl rfl rfl ?_
            refine Chain.step (v := ?_) rfl rfl rfl rfl ?_ ?_
            rotate_left
            · intro a hF w' hw
              have s112 := hF.slot 112 _ rfl
              have s113 := hF.slot 113 _ rfl
              clear hw
              clear hF
              go_simp <;> with_reducible rfl
            refine Chain.step (v := ?_) rfl rfl rfl rfl ?_ ?_
            rotate_left
            · intro a hF w' hw
              have s114 := hF.slot 114 _ rfl
              clear hw
              clear hF
              go_simp <;> with_reducible rfl
            refine Chain.step (v := ?_) rfl rfl rfl rfl ?_ ?_
            rotate_left
            · intro a hF w' hw
              have s115 := hF.slot 115 _ rfl
              cases hw rfl
              clear hF
              go_simp <;> with_reducible rfl
            refine Chain.step (v := ?_) rfl rfl rfl rfl ?_ ?_
            rotate_left
            · intro a hF w' hw
              have s111 := hF.slot 111 _ rfl
              have s116 := hF.slot 116 _ rfl
              clear hw
              clear hF
              go_simp <;> with_reducible rfl
            refine Chain.step (v := ?_) rfl rfl rfl rfl ?_ ?_
            rotate_left
            · intro a hF w' hw
              have s109 := hF.slot 109 _ rfl
              have s117 := hF.slot 117 _ rfl
              clear hw
              clear hF
              go_simp <;> with_reducible rfl
            refine hC _ (fun a hF => ?_)
            clear hC C
            refine any_end (by kernel_rfl) ?_
            replace hF := hF.sub (e' := [(1, _), (2, _), (7, _), (8, _), (9, _), (10, _), (12, _), (118, _)]) ⟨rfl, rfl, rfl, rfl, rfl, rfl, rfl, rfl, trivial⟩
            refine hK _ _ ?_
            clear hK K
            refine cond_no hF rfl ?_
            refine wp_skip ?_
            exact hKD _ _ ⟨_, hF.sub ⟨rfl, rfl, rfl, rfl, rfl, rfl, trivial⟩, HO3.out.down (below_d (Below.refl _ _)), HGr.out⟩
    clear HF1 HF2 HFK HO2 HGX x0 x1 x2 x3 x4 hF
    rintro a w3 ⟨v8, hF, HO3, HGX3⟩
    obtain ⟨x0, x1, x2, x3, x4⟩ := HGX3.out.cells
    refine wp_seq_k (fun K hK => ?_)
    by_cases hk1 : x.kind = 1
    rotate_left
    · have hb1 : (x.kind == 1) = false := by simp [hk1]
      have HO4 : Hid (BlO w1 (4 * (i + 1)) (fun b => ∃ j, j < i + 1 ∧ PA1 G st X j b) v8 w3) := HO3.out.iff (by omega) fun b => by
        rw [← HNX.out b]
        have h1 := HP2K.out hk1 b
        have h2 := HP3K.out hk1 b
        exact ⟨fun h => h.elim Or.inl (fun h => Or.inr (Or.inl h)), fun h => by rcases h with h | h | h | h; exact Or.inl h; exact Or.inr h; exact absurd h h1; exact absurd h h2⟩
      clear hk1
      refine region_seq (l := [0, 1, 2]) (by kernel_rfl) ?_
      refine seq_chain [(0, true), (1, true), (2, true)] [] rfl hF (fun C hC => ?_)
      clear hF
      refine Chain.step (v := ?_) rfl rfl rfl rfl ?_ ?_
      rotate_left
      · intro a hF w' hw
        have s10 := hF.slot 10 _ rfl
        cases hw rfl
        clear hF
        go_simp <;> with_reducible rfl
      refine Chain.step (v := ?_) rfl rfl rfl rfl ?_ ?_
      rotate_left
      · intro a hF w' hw
        have s135 := hF.slot 135 _ rfl
        cases hw rfl
        clear hF
        go_simp <;> with_reducible rfl
      refine Chain.step (v := ?_) rfl rfl rfl rfl ?_ ?_
      rotate_left
      · intro a hF w' hw
        have s136 := hF.slot 136 _ rfl
        cases hw rfl
        clear hF
        go_simp <;> with_reducible rfl
      refine hC _ (fun a hF => ?_)
      clear hC C
      refine seq_end ?_
      replace hF := hF.sub (e' := [(1, _), (2, _), (7, _), (8, _), (9, _), (10, _), (137, _)]) ⟨rfl, rfl, rfl, rfl, rfl, rfl, rfl, trivial⟩
      refine hK _ _ ?_
      clear hK K
      refine cond_no hF rfl ?_
      refine wp_skip ?_
      exact hKC _ _ ⟨_, hF.sub ⟨rfl, rfl, rfl, rfl, rfl, trivial⟩, HO4⟩
    have hb1 : (x.kind == 1) = true := by simp [hk1]
    have HHK := Lib.hid hk1
    clear hk1
    refine region_seq (l := [0, 1, 2]) (by kernel_rfl) ?_
    refine seq_chain [(0, true), (1, true), (2, true)] [] rfl hF (fun C hC => ?_)
    clear hF
    refine Chain.step (v := ?_) rfl rfl rfl rfl ?_ ?_
    rotate_left
    · intro a hF w' hw
      have s10 := hF.slot 10 _ rfl
      cases hw rfl
      clear hF
      go_simp <;> with_reducible rfl
    refine Chain.step (v := ?_) rfl rfl rfl rfl ?_ ?_
    rotate_left
    · intro a hF w' hw
      have s135 := hF.slot 135 _ rfl
      cases hw rfl
      clear hF
      go_simp <;> with_reducible rfl
    refine Chain.step (v := ?_) rfl rfl rfl rfl ?_ ?_
    rotate_left
    · intro a hF w' hw
      have s136 := hF.slot 136 _ rfl
      cases hw rfl
      clear hF
      go_simp <;> with_reducible rfl
    refine hC _ (fun a hF => ?_)
    clear hC C
    refine seq_end ?_
    replace hF := hF.sub (e' := [(1, _), (2, _), (7, _), (8, _), (9, _), (10, _), (137, _)]) ⟨rfl, rfl, rfl, rfl, rfl, rfl, rfl, trivial⟩
    refine hK _ _ ?_
    clear hK K
    refine cond_yes hF rfl ?_
    refine wp_seq_k (fun K hK => ?_)
    refine region_seq (l := [0, 1, 2, 3]) (by kernel_rfl) ?_
    refine seq_chain [(0, true), (1, true)] [2, 3] rfl hF (fun C hC => ?_)
    clear hF
    refine Chain.move rfl rfl rfl rfl rfl rfl ?_
    refine Chain.move rfl rfl rfl rfl rfl rfl ?_
    refine hC _ (fun a hF => ?_)
    clear hC C
    refine seq_one ?_
    refine op_call [_, _] rfl rfl hF rfl (by kernel_rfl) ⟨rfl, rfl, trivial⟩ (fun K hK => ?_)
    clear hF
    refine (HER.out w3 HO3.out.below).mono ?_
    rintro e w4 ⟨⟨r, rfl, hie⟩, hb4⟩
    have HO4 := Lib.hid (HO3.out.down hb4)
    have HG4 := Lib.hid (HGX3.out.down hb4)
    have HTR := Lib.hid (HEA.out r hie)
    clear hie hb4 HO3 HGX3 HER HEA x0 x1 x2 x3 x4 HP2K HP3K
    generalize (wayL (X.take i) x.serial).getLast? = T0 at *
    obtain ⟨d1, hd1⟩ : ∃ d : Bool, d = d1B x T0 := ⟨_, rfl⟩
    obtain ⟨d2, hd2⟩ : ∃ d : Bool, d = d2B x T0 := ⟨_, rfl⟩
    have HD : Hid (∀ b, P2 X i b ↔ (d1 = true ∧ ∃ t, T0 = some t ∧ b = copyB x t) ∨ (d2 = true ∧ ∃ t, T0 = some t ∧ b = fork2B x t)) := fun b => by
      rcases HTR.out with ⟨_, h⟩ | ⟨m, hm, _, h⟩
      · subst h
        rw [hd1, hd2]
        have := HP2N.out rfl b
        simp [this, d1B, d2B]
      · subst h
        rw [hd1, hd2, HP2S.out m hm HHK.out rfl b, pair_mem]
        simp only [d1B, d2B, Bool.and_eq_true, decide_eq_true_eq, Bool.not_eq_true', decide_eq_false_iff_not, Option.some.injEq, exists_eq_left']
        constructor
        · rintro ⟨h1, ⟨h2, h3⟩ | ⟨h2, h3, h4⟩⟩
          · exact Or.inl ⟨⟨h1, h2⟩, h3⟩
          · exact Or.inr ⟨⟨h1, h2, h3⟩, h4⟩
        · rintro (⟨⟨h1, h2⟩, h3⟩ | ⟨⟨h1, h2, h3⟩, h4⟩)
          · exact ⟨h1, Or.inl ⟨h2, h3⟩⟩
          · exact ⟨h1, Or.inr ⟨h2, h3, h4⟩⟩
    have HD1 := Lib.hid hd1
    have HD2 := Lib.hid hd2
    clear hd1 hd2 HP2N HP2S
    refine hK _ _ (fun a hF => ?_)
    clear hK K
    refine seq_chain [(3, true)] [] rfl hF (fun C hC => ?_)
    clear hF
    refine Chain.assign rfl rfl rfl rfl rfl rfl ?_
    refine hC _ (fun a hF => ?_)
    clear hC C
    refine seq_end ?_
    replace hF := hF.sub (e' := [(1, _), (2, _), (7, _), (8, _), (9, _), (10, _), (14, _)]) ⟨rfl, rfl, rfl, rfl, rfl, rfl, rfl, trivial⟩
    refine hK _ _ ?_
    clear hK K
    refine seq_cut (fun a' w' => ∃ v8, FrF 333 [] [(1, .slice ga gn gc), (2, .int .i64 st), (7, .slice (some ⟨b1, o1, none⟩) X.length xc), (8, v8), (9, .int .i64 i), (10, .pointer (some ⟨gx, 0, none⟩)), (14, .int .i64 r)] a' ∧ Hid (BlO w1 (4 * i + 2) (fun b => ((∃ j, j < i ∧ PA1 G st X j b) ∨ P1 X i b) ∨ (d1 = true ∧ ∃ t, T0 = some t ∧ b = copyB x t)) v8 w') ∧ Hid (XIn w' gx x)) (fun KH hKH => ?_) ?_
    · clear hKC
      refine wp_seq_k (fun K hK => ?_)
      have HBd : Hid (Below w1.heap.size w1 w4.drew) := below_d HO4.out.below
      have HNO : d1 = false → Hid (BlO w1 (4 * i + 2) (fun b => ((∃ j, j < i ∧ PA1 G st X j b) ∨ P1 X i b) ∨ (d1 = true ∧ ∃ t, T0 = some t ∧ b = copyB x t)) v8 w4.drew) := fun h => (HO4.out.down (below_d (Below.refl _ _))).iff (by omega) fun b => ⟨Or.inl, fun h2 => h2.elim id (fun h2 => by rw [h] at h2; exact absurd h2.1 (by decide))⟩
      rcases HTR.out with ⟨rfl, rfl⟩ | ⟨m, hm, rfl, rfl⟩
      · have HN := HNO HD1.out
        clear HNO
        refine region_any (by kernel_rfl) ?_
        refine any_chain (fuel := 0) [(0, false), (1, false), (2, false), (3, false), (4, false), (5, false), (6, false), (7, true), (8, false), (9, false), (10, false), (11, false), (12, false), (13, false), (14, false), (15, true), (16, false), (17, true), (18, false), (19, false)] [] rfl (by kernel_rfl) (by kernel_rfl) hF (fun _ _ d _ _ h => by cases d <;> exact h) (fun C hC => ?_)
        clear hF
        refine Chain.move rfl rfl rfl rfl rfl rfl ?_
        refine Chain.step (v := ?_) rfl rfl rfl rfl ?_ ?_
        rotate_left
        · intro a hF w' hw
          have s141 := hF.slot 141 _ rfl
          clear hw
          clear hF
          go_simp <;> with_reducible rfl
        refine Chain.move rfl rfl rfl rfl rfl rfl ?_
        refine Chain.skip rfl rfl rfl rfl ?_
        refine Chain.skip rfl rfl rfl rfl ?_
        refine Chain.skip rfl rfl rfl rfl ?_
        refine Chain.skip rfl rfl rfl rfl ?_
        refine Chain.skip rfl rfl rfl rfl ?_
        refine Chain.skip rfl rfl rfl rfl ?_
        refine Chain.step (v := ?_) rfl rfl rfl rfl ?_ ?_
        rotate_left
        · intro a hF w' hw
          have s143 := hF.slot 143 _ rfl
          have s149 := hF.slot 149 _ rfl
          clear hw
          clear hF
          go_simp <;> with_reducible rfl
        refine Chain.move rfl rfl rfl rfl rfl rfl ?_
        refine Chain.skip rfl rfl rfl rfl ?_
        refine Chain.skip rfl rfl rfl rfl ?_
        refine Chain.skip rfl rfl rfl rfl ?_
        refine Chain.skip rfl rfl rfl rfl ?_
        refine Chain.skip rfl rfl rfl rfl ?_
        refine Chain.skip rfl rfl rfl rfl ?_
        refine Chain.skip rfl rfl rfl rfl ?_
        refine Chain.skip rfl rfl rfl rfl ?_
        refine Chain.step (v := ?_) rfl rfl rfl rfl ?_ ?_
        rotate_left
        · intro a hF w' hw
          have s151 := hF.slot 151 _ rfl
          have s159 := hF.slot 159 _ rfl
          clear hw
          clear hF
          go_simp <;> with_reducible rfl
        refine hC _ (fun a hF => ?_)
        clear hC C
        refine any_end (by kernel_rfl) ?_
        replace hF := hF.sub (e' := [(1, _), (2, _), (7, _), (8, _), (9, _), (10, _), (14, _), (160, _)]) ⟨rfl, rfl, rfl, rfl, rfl, rfl, rfl, rfl, trivial⟩
        refine hK _ _ ?_
        clear hK K
        refine cond_no hF rfl ?_
        refine wp_skip ?_
        exact hKH _ _ ⟨_, hF.sub ⟨rfl, rfl, rfl, rfl, rfl, rfl, rfl, trivial⟩, HN, HG4.out⟩
      · obtain ⟨c0, c1, c2, c4⟩ := HXm.out m hm w4.drew HBd.out
        obtain ⟨e0, e1, e2, e4⟩ := HXm.out m hm w4.drew.drew (below_d HBd.out)
        obtain ⟨x0, x1, x2, x3, x4⟩ := XIn.cells (w := w4.drew) HG4.out
        have hmi : (m : Int) < X.length := by omega
        generalize X[m] = y at *
        by_cases h1 : y.kind = 1
        · have hb2 : (y.kind == 1) = true := by simp [h1]
          by_cases h2 : y.gate = x.gate
          · have hb3 : (y.gate != x.gate) = false := by simp [h2]
            have HN := HNO (HD1.out.trans (by simp [d1B, h1, h2]))
            clear h1 h2 HNO e0 e1 e2 e4
            refine region_any (by kernel_rfl) ?_
            refine any_chain (fuel := 0) [(0, false), (1, false), (2, false), (3, false), (4, false), (5, false), (6, false), (7, true), (8, false), (9, false), (10, false), (11, false), (12, false), (13, false), (14, false), (15, true), (16, false), (17, true), (18, false), (19, false)] [] rfl (by kernel_rfl) (by kernel_rfl) hF (fun _ _ d _ _ h => by cases d <;> exact h) (fun C hC => ?_)
            clear hF
            refine Chain.move rfl rfl rfl rfl rfl rfl ?_
            refine Chain.step (v := ?_) rfl rfl rfl rfl ?_ ?_
            rotate_left
            · intro a hF w' hw
              have s141 := hF.slot 141 _ rfl
              clear hw
              clear hF
              go_simp <;> with_reducible rfl
            refine Chain.move rfl rfl rfl rfl rfl rfl ?_
            refine Chain.move rfl rfl rfl rfl rfl rfl ?_
            refine Chain.move rfl rfl rfl rfl rfl rfl ?_
            refine Chain.step (v := ?_) rfl rfl rfl rfl ?_ ?_
            rotate_left
            · intro a hF w' hw
              have s144 := hF.slot 144 _ rfl
              have s145 := hF.slot 145 _ rfl
              clear hw
              clear hF
              go_simp <;> with_reducible rfl
            refine Chain.step (v := ?_) rfl rfl rfl rfl ?_ ?_
            rotate_left
            · intro a hF w' hw
              have s146 := hF.slot 146 _ rfl
              clear hw
              clear hF
              go_simp <;> with_reducible rfl
            refine Chain.step (v := ?_) rfl rfl rfl rfl ?_ ?_
            rotate_left
            · intro a hF w' hw
              have s147 := hF.slot 147 _ rfl
              cases hw rfl
              clear hF
              go_simp <;> with_reducible rfl
            refine Chain.step (v := ?_) rfl rfl rfl rfl ?_ ?_
            rotate_left
            · intro a hF w' hw
              have s148 := hF.slot 148 _ rfl
              clear hw
              clear hF
              go_simp <;> with_reducible rfl
            refine Chain.step (v := ?_) rfl rfl rfl rfl ?_ ?_
            rotate_left
            · intro a hF w' hw
              have s143 := hF.slot 143 _ rfl
              have s149 := hF.slot 149 _ rfl
              clear hw
              clear hF
              go_simp <;> with_reducible rfl
            refine Chain.move rfl rfl rfl rfl rfl rfl ?_
            refine Chain.move rfl rfl rfl rfl rfl rfl ?_
            refine Chain.move rfl rfl rfl rfl rfl rfl ?_
            refine Chain.step (v := ?_) rfl rfl rfl rfl ?_ ?_
            rotate_left
            · intro a hF w' hw
              have s152 := hF.slot 152 _ rfl
              have s153 := hF.slot 153 _ rfl
              clear hw
              clear hF
              go_simp <;> with_reducible rfl
            refine Chain.step (v := ?_) rfl rfl rfl rfl ?_ ?_
            rotate_left
            · intro a hF w' hw
              have s154 := hF.slot 154 _ rfl
              clear hw
              clear hF
              go_simp <;> with_reducible rfl
            refine Chain.step (v := ?_) rfl rfl rfl rfl ?_ ?_
            rotate_left
            · intro a hF w' hw
              have s155 := hF.slot 155 _ rfl
              cases hw rfl
              clear hF
              go_simp <;> with_reducible rfl
            refine Chain.step (v := ?_) rfl rfl rfl rfl ?_ ?_
            rotate_left
            · intro a hF w' hw
              have s10 := hF.slot 10 _ rfl
              clear hw
              clear hF
              go_simp <;> with_reducible rfl
            refine Chain.step (v := ?_) rfl rfl rfl rfl ?_ ?_
            rotate_left
            · intro a hF w' hw
              have s157 := hF.slot 157 _ rfl
              cases hw rfl
              clear hF
              go_simp <;> with_reducible rfl
            refine Chain.step (v := ?_) rfl rfl rfl rfl ?_ ?_
            rotate_left
            · intro a hF w' hw
              have s156 := hF.slot 156 _ rfl
              have s158 := hF.slot 158 _ rfl
              clear hw
              clear hF
              go_simp <;> with_reducible rfl
            refine Chain.step (v := ?_) rfl rfl rfl rfl ?_ ?_
            rotate_left
            · intro a hF w' hw
              have s151 := hF.slot 151 _ rfl
              have s159 := hF.slot 159 _ rfl
              clear hw
              clear hF
              go_simp <;> with_reducible rfl
            refine hC _ (fun a hF => ?_)
            clear hC C
            refine any_end (by kernel_rfl) ?_
            replace hF := hF.sub (e' := [(1, _), (2, _), (7, _), (8, _), (9, _), (10, _), (14, _), (160, _)]) ⟨rfl, rfl, rfl, rfl, rfl, rfl, rfl, rfl, trivial⟩
            refine hK _ _ ?_
            clear hK K
            refine cond_no hF rfl ?_
            refine wp_skip ?_
            exact hKH _ _ ⟨_, hF.sub ⟨rfl, rfl, rfl, rfl, rfl, rfl, rfl, trivial⟩, HN, HG4.out⟩
          · have hb3 : (y.gate != x.gate) = true := by simp [h2]
            have HDT : Hid (d1 = true) := HD1.out.trans (by simp [d1B, h1, h2])
            clear h1 h2 HNO
            refine region_any (by kernel_rfl) ?_
            refine any_chain (fuel := 0) [(0, false), (1, false), (2, false), (3, false), (4, false), (5, false), (6, false), (7, true), (8, false), (9, false), (10, false), (11, false), (12, false), (13, false), (14, false), (15, true), (16, false), (17, true), (18, false), (19, false)] [] rfl (by kernel_rfl) (by kernel_rfl) hF (fun _ _ d _ _ h => by cases d <;> exact h) (fun C hC => ?_)
            clear hF
            refine Chain.move rfl rfl rfl rfl rfl rfl ?_
            refine Chain.step (v := ?_) rfl rfl rfl rfl ?_ ?_
            rotate_left
            · intro a hF w' hw
              have s141 := hF.slot 141 _ rfl
              clear hw
              clear hF
              go_simp <;> with_reducible rfl
            refine Chain.move rfl rfl rfl rfl rfl rfl ?_
            refine Chain.move rfl rfl rfl rfl rfl rfl ?_
            refine Chain.move rfl rfl rfl rfl rfl rfl ?_
            refine Chain.step (v := ?_) rfl rfl rfl rfl ?_ ?_
            rotate_left
            · intro a hF w' hw
              have s144 := hF.slot 144 _ rfl
              have s145 := hF.slot 145 _ rfl
              clear hw
              clear hF
              go_simp <;> with_reducible rfl
            refine Chain.step (v := ?_) rfl rfl rfl rfl ?_ ?_
            rotate_left
            · intro a hF w' hw
              have s146 := hF.slot 146 _ rfl
              clear hw
              clear hF
              go_simp <;> with_reducible rfl
            refine Chain.step (v := ?_) rfl rfl rfl rfl ?_ ?_
            rotate_left
            · intro a hF w' hw
              have s147 := hF.slot 147 _ rfl
              cases hw rfl
              clear hF
              go_simp <;> with_reducible rfl
            refine Chain.step (v := ?_) rfl rfl rfl rfl ?_ ?_
            rotate_left
            · intro a hF w' hw
              have s148 := hF.slot 148 _ rfl
              clear hw
              clear hF
              go_simp <;> with_reducible rfl
            refine Chain.step (v := ?_) rfl rfl rfl rfl ?_ ?_
            rotate_left
            · intro a hF w' hw
              have s143 := hF.slot 143 _ rfl
              have s149 := hF.slot 149 _ rfl
              clear hw
              clear hF
              go_simp <;> with_reducible rfl
            refine Chain.move rfl rfl rfl rfl rfl rfl ?_
            refine Chain.move rfl rfl rfl rfl rfl rfl ?_
            refine Chain.move rfl rfl rfl rfl rfl rfl ?_
            refine Chain.step (v := ?_) rfl rfl rfl rfl ?_ ?_
            rotate_left
            · intro a hF w' hw
              have s152 := hF.slot 152 _ rfl
              have s153 := hF.slot 153 _ rfl
              clear hw
              clear hF
              go_simp <;> with_reducible rfl
            refine Chain.step (v := ?_) rfl rfl rfl rfl ?_ ?_
            rotate_left
            · intro a hF w' hw
              have s154 := hF.slot 154 _ rfl
              clear hw
              clear hF
              go_simp <;> with_reducible rfl
            refine Chain.step (v := ?_) rfl rfl rfl rfl ?_ ?_
            rotate_left
            · intro a hF w' hw
              have s155 := hF.slot 155 _ rfl
              cases hw rfl
              clear hF
              go_simp <;> with_reducible rfl
            refine Chain.step (v := ?_) rfl rfl rfl rfl ?_ ?_
            rotate_left
            · intro a hF w' hw
              have s10 := hF.slot 10 _ rfl
              clear hw
              clear hF
              go_simp <;> with_reducible rfl
            refine Chain.step (v := ?_) rfl rfl rfl rfl ?_ ?_
            rotate_left
            · intro a hF w' hw
              have s157 := hF.slot 157 _ rfl
              cases hw rfl
              clear hF
              go_simp <;> with_reducible rfl
            refine Chain.step (v := ?_) rfl rfl rfl rfl ?_ ?_
            rotate_left
            · intro a hF w' hw
              have s156 := hF.slot 156 _ rfl
              have s158 := hF.slot 158 _ rfl
              clear hw
              clear hF
              go_simp <;> with_reducible rfl
            refine Chain.step (v := ?_) rfl rfl rfl rfl ?_ ?_
            rotate_left
            · intro a hF w' hw
              have s151 := hF.slot 151 _ rfl
              have s159 := hF.slot 159 _ rfl
              clear hw
              clear hF
              go_simp <;> with_reducible rfl
            refine hC _ (fun a hF => ?_)
            clear hC C
            refine any_end (by kernel_rfl) ?_
            replace hF := hF.sub (e' := [(1, _), (2, _), (7, _), (8, _), (9, _), (10, _), (14, _), (160, _)]) ⟨rfl, rfl, rfl, rfl, rfl, rfl, rfl, rfl, trivial⟩
            refine hK _ _ ?_
            clear hK K
            refine cond_yes hF rfl ?_
            clear x0 x1 x2 x3 x4 c0 c1 c2 c4
            obtain ⟨x0, x1, x2, x3, x4⟩ := XIn.cells (w := w4.drew.drew) HG4.out
            refine region_any (by kernel_rfl) ?_
            refine any_chain (fuel := 2) [(0, false), (1, false), (2, true), (3, false), (4, true), (5, false), (6, true), (7, false), (8, false), (9, false), (10, false), (11, true), (12, false), (13, false), (14, false), (15, false), (16, true), (17, false)] [18] rfl (by kernel_rfl) (by kernel_rfl) hF (fun _ _ d _ _ h => by cases d <;> exact h) (fun C hC => ?_)
            clear hF
            refine Chain.move rfl rfl rfl rfl rfl rfl ?_
            refine Chain.step (v := ?_) rfl rfl rfl rfl ?_ ?_
            rotate_left
            · intro a hF w' hw
              have s10 := hF.slot 10 _ rfl
              clear hw
              clear hF
              go_simp <;> with_reducible rfl
            refine Chain.step (v := ?_) rfl rfl rfl rfl ?_ ?_
            rotate_left
            · intro a hF w' hw
              have s162 := hF.slot 162 _ rfl
              cases hw rfl
              clear hF
              go_simp <;> with_reducible rfl
            refine Chain.step (v := ?_) rfl rfl rfl rfl ?_ ?_
            rotate_left
            · intro a hF w' hw
              have s10 := hF.slot 10 _ rfl
              clear hw
              clear hF
              go_simp <;> with_reducible rfl
            refine Chain.step (v := ?_) rfl rfl rfl rfl ?_ ?_
            rotate_left
            · intro a hF w' hw
              have s164 := hF.slot 164 _ rfl
              cases hw rfl
              clear hF
              go_simp <;> with_reducible rfl
            refine Chain.step (v := ?_) rfl rfl rfl rfl ?_ ?_
            rotate_left
            · intro a hF w' hw
              have s10 := hF.slot 10 _ rfl
              clear hw
              clear hF
              go_simp <;> with_reducible rfl
            refine Chain.step (v := ?_) rfl rfl rfl rfl ?_ ?_
            rotate_left
            · intro a hF w' hw
              have s166 := hF.slot 166 _ rfl
              cases hw rfl
              clear hF
              go_simp <;> with_reducible rfl
            refine Chain.move rfl rfl rfl rfl rfl rfl ?_
            refine Chain.move rfl rfl rfl rfl rfl rfl ?_
            refine Chain.step (v := ?_) rfl rfl rfl rfl ?_ ?_
            rotate_left
            · intro a hF w' hw
              have s168 := hF.slot 168 _ rfl
              have s169 := hF.slot 169 _ rfl
              clear hw
              clear hF
              go_simp <;> with_reducible rfl
            refine Chain.step (v := ?_) rfl rfl rfl rfl ?_ ?_
            rotate_left
            · intro a hF w' hw
              have s170 := hF.slot 170 _ rfl
              clear hw
              clear hF
              go_simp <;> with_reducible rfl
            refine Chain.step (v := ?_) rfl rfl rfl rfl ?_ ?_
            rotate_left
            · intro a hF w' hw
              have s171 := hF.slot 171 _ rfl
              cases hw rfl
              clear hF
              go_simp <;> with_reducible rfl
            refine Chain.move rfl rfl rfl rfl rfl rfl ?_
            refine Chain.move rfl rfl rfl rfl rfl rfl ?_
            refine Chain.step (v := ?_) rfl rfl rfl rfl ?_ ?_
            rotate_left
            · intro a hF w' hw
              have s173 := hF.slot 173 _ rfl
              have s174 := hF.slot 174 _ rfl
              clear hw
              clear hF
              go_simp <;> with_reducible rfl
            refine Chain.step (v := ?_) rfl rfl rfl rfl ?_ ?_
            rotate_left
            · intro a hF w' hw
              have s175 := hF.slot 175 _ rfl
              clear hw
              clear hF
              go_simp <;> with_reducible rfl
            refine Chain.step (v := ?_) rfl rfl rfl rfl ?_ ?_
            rotate_left
            · intro a hF w' hw
              have s176 := hF.slot 176 _ rfl
              cases hw rfl
              clear hF
              go_simp <;> with_reducible rfl
            refine Chain.step (v := ?_) rfl rfl rfl rfl ?_ ?_
            rotate_left
            · intro a hF w' hw
              have s163 := hF.slot 163 _ rfl
              have s165 := hF.slot 165 _ rfl
              have s167 := hF.slot 167 _ rfl
              have s172 := hF.slot 172 _ rfl
              have s177 := hF.slot 177 _ rfl
              clear hw
              clear hF
              go_simp <;> with_reducible rfl
            refine hC _ (fun a hF => ?_)
            clear hC C
            refine any_one (n := 18) (fuel := 1) (by kernel_rfl) ?_
            refine op_call [_, _] rfl rfl hF rfl (by kernel_rfl) ⟨rfl, rfl, trivial⟩ (fun K hK => ?_)
            clear hF
            refine (blo_add (HO4.out.down (below_d (below_d (Below.refl _ _)))) (by omega) (copyB x y)).mono ?_
            rintro e w5 ⟨v5, rfl, hO, hfar⟩
            refine hK _ _ (fun a hF => ?_)
            clear hK K
            refine any_chain (fuel := 0) [(19, false)] [] rfl (by kernel_rfl) (by kernel_rfl) hF (fun _ _ d _ _ h => by cases d <;> exact h) (fun C hC => ?_)
            clear hF
            refine Chain.assign rfl rfl rfl rfl rfl rfl ?_
            refine hC _ (fun a hF => ?_)
            clear hC C
            refine any_end (by kernel_rfl) ?_
            replace hF := hF.sub (e' := [(1, _), (2, _), (7, _), (8, _), (9, _), (10, _), (14, _)]) ⟨rfl, rfl, rfl, rfl, rfl, rfl, rfl, trivial⟩
            refine hKH _ _ ⟨_, hF, hO.iff (by omega) fun b => ?_, hfar _ _ _ _ HG4.out (by decide)⟩
            rw [HDT.out]
            simp only [Option.some.injEq, exists_eq_left', true_and]
            exact ⟨fun h => h.elim Or.inr Or.inl, fun h => h.elim Or.inr Or.inl⟩
        · have hb2 : (y.kind == 1) = false := by simp [h1]
          have HN := HNO (HD1.out.trans (by simp [d1B, h1]))
          clear h1 HNO e0 e1 e2 e4
          refine region_any (by kernel_rfl) ?_
          refine any_chain (fuel := 0) [(0, false), (1, false), (2, false), (3, false), (4, false), (5, false), (6, false), (7, true), (8, false), (9, false), (10, false), (11, false), (12, false), (13, false), (14, false), (15, true), (16, false), (17, true), (18, false), (19, false)] [] rfl (by kernel_rfl) (by kernel_rfl) hF (fun _ _ d _ _ h => by cases d <;> exact h) (fun C hC => ?_)
          clear hF
          refine Chain.move rfl rfl rfl rfl rfl rfl ?_
          refine Chain.step (v := ?_) rfl rfl rfl rfl ?_ ?_
          rotate_left
          · intro a hF w' hw
            have s141 := hF.slot 141 _ rfl
            clear hw
            clear hF
            go_simp <;> with_reducible rfl
          refine Chain.move rfl rfl rfl rfl rfl rfl ?_
          refine Chain.move rfl rfl rfl rfl rfl rfl ?_
          refine Chain.move rfl rfl rfl rfl rfl rfl ?_
          refine Chain.step (v := ?_) rfl rfl rfl rfl ?_ ?_
          rotate_left
          · intro a hF w' hw
            have s144 := hF.slot 144 _ rfl
            have s145 := hF.slot 145 _ rfl
            clear hw
            clear hF
            go_simp <;> with_reducible rfl
          refine Chain.step (v := ?_) rfl rfl rfl rfl ?_ ?_
          rotate_left
          · intro a hF w' hw
            have s146 := hF.slot 146 _ rfl
            clear hw
            clear hF
            go_simp <;> with_reducible rfl
          refine Chain.step (v := ?_) rfl rfl rfl rfl ?_ ?_
          rotate_left
          · intro a hF w' hw
            have s147 := hF.slot 147 _ rfl
            cases hw rfl
            clear hF
            go_simp <;> with_reducible rfl
          refine Chain.step (v := ?_) rfl rfl rfl rfl ?_ ?_
          rotate_left
          · intro a hF w' hw
            have s148 := hF.slot 148 _ rfl
            clear hw
            clear hF
            go_simp <;> with_reducible rfl
          refine Chain.step (v := ?_) rfl rfl rfl rfl ?_ ?_
          rotate_left
          · intro a hF w' hw
            have s143 := hF.slot 143 _ rfl
            have s149 := hF.slot 149 _ rfl
            clear hw
            clear hF
            go_simp <;> with_reducible rfl
          refine Chain.move rfl rfl rfl rfl rfl rfl ?_
          refine Chain.skip rfl rfl rfl rfl ?_
          refine Chain.skip rfl rfl rfl rfl ?_
          refine Chain.skip rfl rfl rfl rfl ?_
          refine Chain.skip rfl rfl rfl rfl ?_
          refine Chain.skip rfl rfl rfl rfl ?_
          refine Chain.skip rfl rfl rfl rfl ?_
          refine Chain.skip rfl rfl rfl rfl ?_
          refine Chain.skip rfl rfl rfl rfl ?_
          refine Chain.step (v := ?_) rfl rfl rfl rfl ?_ ?_
          rotate_left
          · intro a hF w' hw
            have s151 := hF.slot 151 _ rfl
            have s159 := hF.slot 159 _ rfl
            clear hw
            clear hF
            go_simp <;> with_reducible rfl
          refine hC _ (fun a hF => ?_)
          clear hC C
          refine any_end (by kernel_rfl) ?_
          replace hF := hF.sub (e' := [(1, _), (2, _), (7, _), (8, _), (9, _), (10, _), (14, _), (160, _)]) ⟨rfl, rfl, rfl, rfl, rfl, rfl, rfl, rfl, trivial⟩
          refine hK _ _ ?_
          clear hK K
          refine cond_no hF rfl ?_
          refine wp_skip ?_
          exact hKH _ _ ⟨_, hF.sub ⟨rfl, rfl, rfl, rfl, rfl, rfl, rfl, trivial⟩, HN, HG4.out⟩
    clear HO4 HG4 hF HD1
    rintro a w4 ⟨v8, hF, HO4, HG4⟩
    refine seq_cut (fun a' w' => ∃ v8, FrF 333 [] [(1, .slice ga gn gc), (2, .int .i64 st), (7, .slice (some ⟨b1, o1, none⟩) X.length xc), (8, v8), (9, .int .i64 i), (10, .pointer (some ⟨gx, 0, none⟩))] a' ∧ Hid (BlO w1 (4 * i + 3) (fun b => (∃ j, j < i ∧ PA1 G st X j b) ∨ P1 X i b ∨ P2 X i b) v8 w') ∧ Hid (XIn w' gx x)) (fun KH hKH => ?_) ?_
    · clear hKC
      have HD3 : Hid (∀ b, ((((∃ j, j < i ∧ PA1 G st X j b) ∨ P1 X i b) ∨ (d1 = true ∧ ∃ t, T0 = some t ∧ b = copyB x t)) ∨ (d2 = true ∧ ∃ t, T0 = some t ∧ b = fork2B x t)) ↔ ((∃ j, j < i ∧ PA1 G st X j b) ∨ P1 X i b ∨ P2 X i b)) := fun b => by
        rw [HD.out b, or_assoc, or_assoc]
      refine wp_seq_k (fun K hK => ?_)
      have HBd : Hid (Below w1.heap.size w1 w4.drew) := below_d HO4.out.below
      have HNO : d2 = false → Hid (BlO w1 (4 * i + 3) (fun b => (∃ j, j < i ∧ PA1 G st X j b) ∨ P1 X i b ∨ P2 X i b) v8 w4.drew) := fun h => (HO4.out.down (below_d (Below.refl _ _))).iff (by omega) fun b => by
        rw [← HD3.out b, h]
        simp
      rcases HTR.out with ⟨rfl, rfl⟩ | ⟨m, hm, rfl, rfl⟩
      · have HN := HNO HD2.out
        clear HNO
        refine region_any (by kernel_rfl) ?_
        refine any_chain (fuel := 0) [(0, false), (1, false), (2, false), (3, false), (4, false), (5, false), (6, false), (7, true), (8, false), (9, false), (10, false), (11, false), (12, false), (13, false), (14, false), (15, true), (16, false), (17, true), (18, false), (19, false), (20, false), (21, false), (22, false), (23, false), (24, false), (25, true), (26, false), (27, true), (28, false), (29, false)] [] rfl (by kernel_rfl) (by kernel_rfl) hF (fun _ _ d _ _ h => by cases d <;> exact h) (fun C hC => ?_)
        clear hF
        refine Chain.move rfl rfl rfl rfl rfl rfl ?_
        refine Chain.step (v := ?_) rfl rfl rfl rfl ?_ ?_
        rotate_left
        · intro a hF w' hw
          have s180 := hF.slot 180 _ rfl
          clear hw
          clear hF
          go_simp <;> with_reducible rfl
        refine Chain.move rfl rfl rfl rfl rfl rfl ?_
        refine Chain.skip rfl rfl rfl rfl ?_
        refine Chain.skip rfl rfl rfl rfl ?_
        refine Chain.skip rfl rfl rfl rfl ?_
        refine Chain.skip rfl rfl rfl rfl ?_
        refine Chain.skip rfl rfl rfl rfl ?_
        refine Chain.skip rfl rfl rfl rfl ?_
        refine Chain.step (v := ?_) rfl rfl rfl rfl ?_ ?_
        rotate_left
        · intro a hF w' hw
          have s182 := hF.slot 182 _ rfl
          have s188 := hF.slot 188 _ rfl
          clear hw
          clear hF
          go_simp <;> with_reducible rfl
        refine Chain.move rfl rfl rfl rfl rfl rfl ?_
        refine Chain.skip rfl rfl rfl rfl ?_
        refine Chain.skip rfl rfl rfl rfl ?_
        refine Chain.skip rfl rfl rfl rfl ?_
        refine Chain.skip rfl rfl rfl rfl ?_
        refine Chain.skip rfl rfl rfl rfl ?_
        refine Chain.skip rfl rfl rfl rfl ?_
        refine Chain.skip rfl rfl rfl rfl ?_
        refine Chain.skip rfl rfl rfl rfl ?_
        refine Chain.step (v := ?_) rfl rfl rfl rfl ?_ ?_
        rotate_left
        · intro a hF w' hw
          have s190 := hF.slot 190 _ rfl
          have s198 := hF.slot 198 _ rfl
          clear hw
          clear hF
          go_simp <;> with_reducible rfl
        refine Chain.move rfl rfl rfl rfl rfl rfl ?_
        refine Chain.skip rfl rfl rfl rfl ?_
        refine Chain.skip rfl rfl rfl rfl ?_
        refine Chain.skip rfl rfl rfl rfl ?_
        refine Chain.skip rfl rfl rfl rfl ?_
        refine Chain.skip rfl rfl rfl rfl ?_
        refine Chain.skip rfl rfl rfl rfl ?_
        refine Chain.skip rfl rfl rfl rfl ?_
        refine Chain.skip rfl rfl rfl rfl ?_
        refine Chain.step (v := ?_) rfl rfl rfl rfl ?_ ?_
        rotate_left
        · intro a hF w' hw
          have s200 := hF.slot 200 _ rfl
          have s208 := hF.slot 208 _ rfl
          clear hw
          clear hF
          go_simp <;> with_reducible rfl
        refine hC _ (fun a hF => ?_)
        clear hC C
        refine any_end (by kernel_rfl) ?_
        replace hF := hF.sub (e' := [(1, _), (2, _), (7, _), (8, _), (9, _), (10, _), (14, _), (209, _)]) ⟨rfl, rfl, rfl, rfl, rfl, rfl, rfl, rfl, trivial⟩
        refine hK _ _ ?_
        clear hK K
        refine cond_no hF rfl ?_
        refine wp_skip ?_
        exact hKH _ _ ⟨_, hF.sub ⟨rfl, rfl, rfl, rfl, rfl, rfl, trivial⟩, HN, HG4.out⟩
      · obtain ⟨c0, c1, c2, c4⟩ := HXm.out m hm w4.drew HBd.out
        obtain ⟨e0, e1, e2, e4⟩ := HXm.out m hm w4.drew.drew (below_d HBd.out)
        obtain ⟨x0, x1, x2, x3, x4⟩ := XIn.cells (w := w4.drew) HG4.out
        have hmi : (m : Int) < X.length := by omega
        generalize X[m] = y at *
        by_cases h1 : y.kind = 1
        rotate_left
        · have hb2 : (y.kind == 1) = false := by simp [h1]
          have HN := HNO (HD2.out.trans (by simp [d2B, h1]))
          clear h1 HNO e0 e1 e2 e4
          refine region_any (by kernel_rfl) ?_
          refine any_chain (fuel := 0) [(0, false), (1, false), (2, false), (3, false), (4, false), (5, false), (6, false), (7, true), (8, false), (9, false), (10, false), (11, false), (12, false), (13, false), (14, false), (15, true), (16, false), (17, true), (18, false), (19, false), (20, false), (21, false), (22, false), (23, false), (24, false), (25, true), (26, false), (27, true), (28, false), (29, false)] [] rfl (by kernel_rfl) (by kernel_rfl) hF (fun _ _ d _ _ h => by cases d <;> exact h) (fun C hC => ?_)
          clear hF
          refine Chain.move rfl rfl rfl rfl rfl rfl ?_
          refine Chain.step (v := ?_) rfl rfl rfl rfl ?_ ?_
          rotate_left
          · intro a hF w' hw
            have s180 := hF.slot 180 _ rfl
            clear hw
            clear hF
            go_simp <;> with_reducible rfl
          refine Chain.move rfl rfl rfl rfl rfl rfl ?_
          refine Chain.move rfl rfl rfl rfl rfl rfl ?_
          refine Chain.move rfl rfl rfl rfl rfl rfl ?_
          refine Chain.step (v := ?_) rfl rfl rfl rfl ?_ ?_
          rotate_left
          · intro a hF w' hw
            have s183 := hF.slot 183 _ rfl
            have s184 := hF.slot 184 _ rfl
            clear hw
            clear hF
            go_simp <;> with_reducible rfl
          refine Chain.step (v := ?_) rfl rfl rfl rfl ?_ ?_
          rotate_left
          · intro a hF w' hw
            have s185 := hF.slot 185 _ rfl
            clear hw
            clear hF
            go_simp <;> with_reducible rfl
          refine Chain.step (v := ?_) rfl rfl rfl rfl ?_ ?_
          rotate_left
          · intro a hF w' hw
            have s186 := hF.slot 186 _ rfl
            cases hw rfl
            clear hF
            go_simp <;> with_reducible rfl
          refine Chain.step (v := ?_) rfl rfl rfl rfl ?_ ?_
          rotate_left
          · intro a hF w' hw
            have s187 := hF.slot 187 _ rfl
            clear hw
            clear hF
            go_simp <;> with_reducible rfl
          refine Chain.step (v := ?_) rfl rfl rfl rfl ?_ ?_
          rotate_left
          · intro a hF w' hw
            have s182 := hF.slot 182 _ rfl
            have s188 := hF.slot 188 _ rfl
            clear hw
            clear hF
            go_simp <;> with_reducible rfl
          refine Chain.move rfl rfl rfl rfl rfl rfl ?_
          refine Chain.skip rfl rfl rfl rfl ?_
          refine Chain.skip rfl rfl rfl rfl ?_
          refine Chain.skip rfl rfl rfl rfl ?_
          refine Chain.skip rfl rfl rfl rfl ?_
          refine Chain.skip rfl rfl rfl rfl ?_
          refine Chain.skip rfl rfl rfl rfl ?_
          refine Chain.skip rfl rfl rfl rfl ?_
          refine Chain.skip rfl rfl rfl rfl ?_
          refine Chain.step (v := ?_) rfl rfl rfl rfl ?_ ?_
          rotate_left
          · intro a hF w' hw
            have s190 := hF.slot 190 _ rfl
            have s198 := hF.slot 198 _ rfl
            clear hw
            clear hF
            go_simp <;> with_reducible rfl
          refine Chain.move rfl rfl rfl rfl rfl rfl ?_
          refine Chain.skip rfl rfl rfl rfl ?_
          refine Chain.skip rfl rfl rfl rfl ?_
          refine Chain.skip rfl rfl rfl rfl ?_
          refine Chain.skip rfl rfl rfl rfl ?_
          refine Chain.skip rfl rfl rfl rfl ?_
          refine Chain.skip rfl rfl rfl rfl ?_
          refine Chain.skip rfl rfl rfl rfl ?_
          refine Chain.skip rfl rfl rfl rfl ?_
          refine Chain.step (v := ?_) rfl rfl rfl rfl ?_ ?_
          rotate_left
          · intro a hF w' hw
            have s200 := hF.slot 200 _ rfl
            have s208 := hF.slot 208 _ rfl
            clear hw
            clear hF
            go_simp <;> with_reducible rfl
          refine hC _ (fun a hF => ?_)
          clear hC C
          refine any_end (by kernel_rfl) ?_
          replace hF := hF.sub (e' := [(1, _), (2, _), (7, _), (8, _), (9, _), (10, _), (14, _), (209, _)]) ⟨rfl, rfl, rfl, rfl, rfl, rfl, rfl, rfl, trivial⟩
          refine hK _ _ ?_
          clear hK K
          refine cond_no hF rfl ?_
          refine wp_skip ?_
          exact hKH _ _ ⟨_, hF.sub ⟨rfl, rfl, rfl, rfl, rfl, rfl, trivial⟩, HN, HG4.out⟩
        have hb2 : (y.kind == 1) = true := by simp [h1]
        by_cases h2 : y.gate = x.gate
        rotate_left
        · have hb3 : (y.gate == x.gate) = false := by simp [h2]
          have HN := HNO (HD2.out.trans (by simp [d2B, h1, h2]))
          clear h1 h2 HNO e0 e1 e2 e4
          refine region_any (by kernel_rfl) ?_
          refine any_chain (fuel := 0) [(0, false), (1, false), (2, false), (3, false), (4, false), (5, false), (6, false), (7, true), (8, false), (9, false), (10, false), (11, false), (12, false), (13, false), (14, false), (15, true), (16, false), (17, true), (18, false), (19, false), (20, false), (21, false), (22, false), (23, false), (24, false), (25, true), (26, false), (27, true), (28, false), (29, false)] [] rfl (by kernel_rfl) (by kernel_rfl) hF (fun _ _ d _ _ h => by cases d <;> exact h) (fun C hC => ?_)
          clear hF
          refine Chain.move rfl rfl rfl rfl rfl rfl ?_
          refine Chain.step (v := ?_) rfl rfl rfl rfl ?_ ?_
          rotate_left
          · intro a hF w' hw
            have s180 := hF.slot 180 _ rfl
            clear hw
            clear hF
            go_simp <;> with_reducible rfl
          refine Chain.move rfl rfl rfl rfl rfl rfl ?_
          refine Chain.move rfl rfl rfl rfl rfl rfl ?_
          refine Chain.move rfl rfl rfl rfl rfl rfl ?_
          refine Chain.step (v := ?_) rfl rfl rfl rfl ?_ ?_
          rotate_left
          · intro a hF w' hw
            have s183 := hF.slot 183 _ rfl
            have s184 := hF.slot 184 _ rfl
            clear hw
            clear hF
            go_simp <;> with_reducible rfl
          refine Chain.step (v := ?_) rfl rfl rfl rfl ?_ ?_
          rotate_left
          · intro a hF w' hw
            have s185 := hF.slot 185 _ rfl
            clear hw
            clear hF
            go_simp <;> with_reducible rfl
          refine Chain.step (v := ?_) rfl rfl rfl rfl ?_ ?_
          rotate_left
          · intro a hF w' hw
            have s186 := hF.slot 186 _ rfl
            cases hw rfl
            clear hF
            go_simp <;> with_reducible rfl
          refine Chain.step (v := ?_) rfl rfl rfl rfl ?_ ?_
          rotate_left
          · intro a hF w' hw
            have s187 := hF.slot 187 _ rfl
            clear hw
            clear hF
            go_simp <;> with_reducible rfl
          refine Chain.step (v := ?_) rfl rfl rfl rfl ?_ ?_
          rotate_left
          · intro a hF w' hw
            have s182 := hF.slot 182 _ rfl
            have s188 := hF.slot 188 _ rfl
            clear hw
            clear hF
            go_simp <;> with_reducible rfl
          refine Chain.move rfl rfl rfl rfl rfl rfl ?_
          refine Chain.move rfl rfl rfl rfl rfl rfl ?_
          refine Chain.move rfl rfl rfl rfl rfl rfl ?_
          refine Chain.step (v := ?_) rfl rfl rfl rfl ?_ ?_
          rotate_left
          · intro a hF w' hw
            have s191 := hF.slot 191 _ rfl
            have s192 := hF.slot 192 _ rfl
            clear hw
            clear hF
            go_simp <;> with_reducible rfl
          refine Chain.step (v := ?_) rfl rfl rfl rfl ?_ ?_
          rotate_left
          · intro a hF w' hw
            have s193 := hF.slot 193 _ rfl
            clear hw
            clear hF
            go_simp <;> with_reducible rfl
          refine Chain.step (v := ?_) rfl rfl rfl rfl ?_ ?_
          rotate_left
          · intro a hF w' hw
            have s194 := hF.slot 194 _ rfl
            cases hw rfl
            clear hF
            go_simp <;> with_reducible rfl
          refine Chain.step (v := ?_) rfl rfl rfl rfl ?_ ?_
          rotate_left
          · intro a hF w' hw
            have s10 := hF.slot 10 _ rfl
            clear hw
            clear hF
            go_simp <;> with_reducible rfl
          refine Chain.step (v := ?_) rfl rfl rfl rfl ?_ ?_
          rotate_left
          · intro a hF w' hw
            have s196 := hF.slot 196 _ rfl
            cases hw rfl
            clear hF
            go_simp <;> with_reducible rfl
          refine Chain.step (v := ?_) rfl rfl rfl rfl ?_ ?_
          rotate_left
          · intro a hF w' hw
            have s195 := hF.slot 195 _ rfl
            have s197 := hF.slot 197 _ rfl
            clear hw
            clear hF
            go_simp <;> with_reducible rfl
          refine Chain.step (v := ?_) rfl rfl rfl rfl ?_ ?_
          rotate_left
          · intro a hF w' hw
            have s190 := hF.slot 190 _ rfl
            have s198 := hF.slot 198 _ rfl
            clear hw
            clear hF
            go_simp <;> with_reducible rfl
          refine Chain.move rfl rfl rfl rfl rfl rfl ?_
          refine Chain.skip rfl rfl rfl rfl ?_
          refine Chain.skip rfl rfl rfl rfl ?_
          refine Chain.skip rfl rfl rfl rfl ?_
          refine Chain.skip rfl rfl rfl rfl ?_
          refine Chain.skip rfl rfl rfl rfl ?_
          refine Chain.skip rfl rfl rfl rfl ?_
          refine Chain.skip rfl rfl rfl rfl ?_
          refine Chain.skip rfl rfl rfl rfl ?_
          refine Chain.step (v := ?_) rfl rfl rfl rfl ?_ ?_
          rotate_left
          · intro a hF w' hw
            have s200 := hF.slot 200 _ rfl
            have s208 := hF.slot 208 _ rfl
            clear hw
            clear hF
            go_simp <;> with_reducible rfl
          refine hC _ (fun a hF => ?_)
          clear hC C
          refine any_end (by kernel_rfl) ?_
          replace hF := hF.sub (e' := [(1, _), (2, _), (7, _), (8, _), (9, _), (10, _), (14, _), (209, _)]) ⟨rfl, rfl, rfl, rfl, rfl, rfl, rfl, rfl, trivial⟩
          refine hK _ _ ?_
          clear hK K
          refine cond_no hF rfl ?_
          refine wp_skip ?_
          exact hKH _ _ ⟨_, hF.sub ⟨rfl, rfl, rfl, rfl, rfl, rfl, trivial⟩, HN, HG4.out⟩
        have hb3 : (y.gate == x.gate) = true := by simp [h2]
        by_cases h3 : y.number = x.number
        · have hb4 : (y.number != x.number) = false := by simp [h3]
          have HN := HNO (HD2.out.trans (by simp [d2B, h1, h2, h3]))
          clear h1 h2 h3 HNO e0 e1 e2 e4
          refine region_any (by kernel_rfl) ?_
          refine any_chain (fuel := 0) [(0, false), (1, false), (2, false), (3, false), (4, false), (5, false), (6, false), (7, true), (8, false), (9, false), (10, false), (11, false), (12, false), (13, false), (14, false), (15, true), (16, false), (17, true), (18, false), (19, false), (20, false), (21, false), (22, false), (23, false), (24, false), (25, true), (26, false), (27, true), (28, false), (29, false)] [] rfl (by kernel_rfl) (by kernel_rfl) hF (fun _ _ d _ _ h => by cases d <;> exact h) (fun C hC => ?_)
          clear hF
          refine Chain.move rfl rfl rfl rfl rfl rfl ?_
          refine Chain.step (v := ?_) rfl rfl rfl rfl ?_ ?_
          rotate_left
          · intro a hF w' hw
            have s180 := hF.slot 180 _ rfl
            clear hw
            clear hF
            go_simp <;> with_reducible rfl
          refine Chain.move rfl rfl rfl rfl rfl rfl ?_
          refine Chain.move rfl rfl rfl rfl rfl rfl ?_
          refine Chain.move rfl rfl rfl rfl rfl rfl ?_
          refine Chain.step (v := ?_) rfl rfl rfl rfl ?_ ?_
          rotate_left
          · intro a hF w' hw
            have s183 := hF.slot 183 _ rfl
            have s184 := hF.slot 184 _ rfl
            clear hw
            clear hF
            go_simp <;> with_reducible rfl
          refine Chain.step (v := ?_) rfl rfl rfl rfl ?_ ?_
          rotate_left
          · intro a hF w' hw
            have s185 := hF.slot 185 _ rfl
            clear hw
            clear hF
            go_simp <;> with_reducible rfl
          refine Chain.step (v := ?_) rfl rfl rfl rfl ?_ ?_
          rotate_left
          · intro a hF w' hw
            have s186 := hF.slot 186 _ rfl
            cases hw rfl
            clear hF
            go_simp <;> with_reducible rfl
          refine Chain.step (v := ?_) rfl rfl rfl rfl ?_ ?_
          rotate_left
          · intro a hF w' hw
            have s187 := hF.slot 187 _ rfl
            clear hw
            clear hF
            go_simp <;> with_reducible rfl
          refine Chain.step (v := ?_) rfl rfl rfl rfl ?_ ?_
          rotate_left
          · intro a hF w' hw
            have s182 := hF.slot 182 _ rfl
            have s188 := hF.slot 188 _ rfl
            clear hw
            clear hF
            go_simp <;> with_reducible rfl
          refine Chain.move rfl rfl rfl rfl rfl rfl ?_
          refine Chain.move rfl rfl rfl rfl rfl rfl ?_
          refine Chain.move rfl rfl rfl rfl rfl rfl ?_
          refine Chain.step (v := ?_) rfl rfl rfl rfl ?_ ?_
          rotate_left
          · intro a hF w' hw
            have s191 := hF.slot 191 _ rfl
            have s192 := hF.slot 192 _ rfl
            clear hw
            clear hF
            go_simp <;> with_reducible rfl
          refine Chain.step (v := ?_) rfl rfl rfl rfl ?_ ?_
          rotate_left
          · intro a hF w' hw
            have s193 := hF.slot 193 _ rfl
            clear hw
            clear hF
            go_simp <;> with_reducible rfl
          refine Chain.step (v := ?_) rfl rfl rfl rfl ?_ ?_
          rotate_left
          · intro a hF w' hw
            have s194 := hF.slot 194 _ rfl
            cases hw rfl
            clear hF
            go_simp <;> with_reducible rfl
          refine Chain.step (v := ?_) rfl rfl rfl rfl ?_ ?_
          rotate_left
          · intro a hF w' hw
            have s10 := hF.slot 10 _ rfl
            clear hw
            clear hF
            go_simp <;> with_reducible rfl
          refine Chain.step (v := ?_) rfl rfl rfl rfl ?_ ?_
          rotate_left
          · intro a hF w' hw
            have s196 := hF.slot 196 _ rfl
            cases hw rfl
            clear hF
            go_simp <;> with_reducible rfl
          refine Chain.step (v := ?_) rfl rfl rfl rfl ?_ ?_
          rotate_left
          · intro a hF w' hw
            have s195 := hF.slot 195 _ rfl
            have s197 := hF.slot 197 _ rfl
            clear hw
            clear hF
            go_simp <;> with_reducible rfl
          refine Chain.step (v := ?_) rfl rfl rfl rfl ?_ ?_
          rotate_left
          · intro a hF w' hw
            have s190 := hF.slot 190 _ rfl
            have s198 := hF.slot 198 _ rfl
            clear hw
            clear hF
            go_simp <;> with_reducible rfl
          refine Chain.move rfl rfl rfl rfl rfl rfl ?_
          refine Chain.move rfl rfl rfl rfl rfl rfl ?_
          refine Chain.move rfl rfl rfl rfl rfl rfl ?_
          refine Chain.step (v := ?_) rfl rfl rfl rfl ?_ ?_
          rotate_left
          · intro a hF w' hw
            have s201 := hF.slot 201 _ rfl
            have s202 := hF.slot 202 _ rfl
            clear hw
            clear hF
            go_simp <;> with_reducible rfl
          refine Chain.step (v := ?_) rfl rfl rfl rfl ?_ ?_
          rotate_left
          · intro a hF w' hw
            have s203 := hF.slot 203 _ rfl
            clear hw
            clear hF
            go_simp <;> with_reducible rfl
          refine Chain.step (v := ?_) rfl rfl rfl rfl ?_ ?_
          rotate_left
          · intro a hF w' hw
            have s204 := hF.slot 204 _ rfl
            cases hw rfl
            clear hF
            go_simp <;> with_reducible rfl
          refine Chain.step (v := ?_) rfl rfl rfl rfl ?_ ?_
          rotate_left
          · intro a hF w' hw
            have s10 := hF.slot 10 _ rfl
            clear hw
            clear hF
            go_simp <;> with_reducible rfl
          refine Chain.step (v := ?_) rfl rfl rfl rfl ?_ ?_
          rotate_left
          · intro a hF w' hw
            have s206 := hF.slot 206 _ rfl
            cases hw rfl
            clear hF
            go_simp <;> with_reducible rfl
          refine Chain.step (v := ?_) rfl rfl rfl rfl ?_ ?_
          rotate_left
          · intro a hF w' hw
            have s205 := hF.slot 205 _ rfl
            have s207 := hF.slot 207 _ rfl
            clear hw
            clear hF
            go_simp <;> with_reducible rfl
          refine Chain.step (v := ?_) rfl rfl rfl rfl ?_ ?_
          rotate_left
          · intro a hF w' hw
            have s200 := hF.slot 200 _ rfl
            have s208 := hF.slot 208 _ rfl
            clear hw
            clear hF
            go_simp <;> with_reducible rfl
          refine hC _ (fun a hF => ?_)
          clear hC C
          refine any_end (by kernel_rfl) ?_
          replace hF := hF.sub (e' := [(1, _), (2, _), (7, _), (8, _), (9, _), (10, _), (14, _), (209, _)]) ⟨rfl, rfl, rfl, rfl, rfl, rfl, rfl, rfl, trivial⟩
          refine hK _ _ ?_
          clear hK K
          refine cond_no hF rfl ?_
          refine wp_skip ?_
          exact hKH _ _ ⟨_, hF.sub ⟨rfl, rfl, rfl, rfl, rfl, rfl, trivial⟩, HN, HG4.out⟩
        have hb4 : (y.number != x.number) = true := by simp [h3]
        have HDT : Hid (d2 = true) := HD2.out.trans (by simp [d2B, h1, h2, h3])
        have HY : Hid (fork2B x y = ⟨2, x.serial, x.gate, x.number, x.gate, y.number⟩) := by unfold fork2B; rw [h2]; rfl
        clear h1 h2 h3 HNO
        refine region_any (by kernel_rfl) ?_
        refine any_chain (fuel := 0) [(0, false), (1, false), (2, false), (3, false), (4, false), (5, false), (6, false), (7, true), (8, false), (9, false), (10, false), (11, false), (12, false), (13, false), (14, false), (15, true), (16, false), (17, true), (18, false), (19, false), (20, false), (21, false), (22, false), (23, false), (24, false), (25, true), (26, false), (27, true), (28, false), (29, false)] [] rfl (by kernel_rfl) (by kernel_rfl) hF (fun _ _ d _ _ h => by cases d <;> exact h) (fun C hC => ?_)
        clear hF
        refine Chain.move rfl rfl rfl rfl rfl rfl ?_
        refine Chain.step (v := ?_) rfl rfl rfl rfl ?_ ?_
        rotate_left
        · intro a hF w' hw
          have s180 := hF.slot 180 _ rfl
          clear hw
          clear hF
          go_simp <;> with_reducible rfl
        refine Chain.move rfl rfl rfl rfl rfl rfl ?_
        refine Chain.move rfl rfl rfl rfl rfl rfl ?_
        refine Chain.move rfl rfl rfl rfl rfl rfl ?_
        refine Chain.step (v := ?_) rfl rfl rfl rfl ?_ ?_
        rotate_left
        · intro a hF w' hw
          have s183 := hF.slot 183 _ rfl
          have s184 := hF.slot 184 _ rfl
          clear hw
          clear hF
          go_simp <;> with_reducible rfl
        refine Chain.step (v := ?_) rfl rfl rfl rfl ?_ ?_
        rotate_left
        · intro a hF w' hw
          have s185 := hF.slot 185 _ rfl
          clear hw
          clear hF
          go_simp <;> with_reducible rfl
        refine Chain.step (v := ?_) rfl rfl rfl rfl ?_ ?_
        rotate_left
        · intro a hF w' hw
          have s186 := hF.slot 186 _ rfl
          cases hw rfl
          clear hF
          go_simp <;> with_reducible rfl
        refine Chain.step (v := ?_) rfl rfl rfl rfl ?_ ?_
        rotate_left
        · intro a hF w' hw
          have s187 := hF.slot 187 _ rfl
          clear hw
          clear hF
          go_simp <;> with_reducible rfl
        refine Chain.step (v := ?_) rfl rfl rfl rfl ?_ ?_
        rotate_left
        · intro a hF w' hw
          have s182 := hF.slot 182 _ rfl
          have s188 := hF.slot 188 _ rfl
          clear hw
          clear hF
          go_simp <;> with_reducible rfl
        refine Chain.move rfl rfl rfl rfl rfl rfl ?_
        refine Chain.move rfl rfl rfl rfl rfl rfl ?_
        refine Chain.move rfl rfl rfl rfl rfl rfl ?_
        refine Chain.step (v := ?_) rfl rfl rfl rfl ?_ ?_
        rotate_left
        · intro a hF w' hw
          have s191 := hF.slot 191 _ rfl
          have s192 := hF.slot 192 _ rfl
          clear hw
          clear hF
          go_simp <;> with_reducible rfl
        refine Chain.step (v := ?_) rfl rfl rfl rfl ?_ ?_
        rotate_left
        · intro a hF w' hw
          have s193 := hF.slot 193 _ rfl
          clear hw
          clear hF
          go_simp <;> with_reducible rfl
        refine Chain.step (v := ?_) rfl rfl rfl rfl ?_ ?_
        rotate_left
        · intro a hF w' hw
          have s194 := hF.slot 194 _ rfl
          cases hw rfl
          clear hF
          go_simp <;> with_reducible rfl
        refine Chain.step (v := ?_) rfl rfl rfl rfl ?_ ?_
        rotate_left
        · intro a hF w' hw
          have s10 := hF.slot 10 _ rfl
          clear hw
          clear hF
          go_simp <;> with_reducible rfl
        refine Chain.step (v := ?_) rfl rfl rfl rfl ?_ ?_
        rotate_left
        · intro a hF w' hw
          have s196 := hF.slot 196 _ rfl
          cases hw rfl
          clear hF
          go_simp <;> with_reducible rfl
        refine Chain.step (v := ?_) rfl rfl rfl rfl ?_ ?_
        rotate_left
        · intro a hF w' hw
          have s195 := hF.slot 195 _ rfl
          have s197 := hF.slot 197 _ rfl
          clear hw
          clear hF
          go_simp <;> with_reducible rfl
        refine Chain.step (v := ?_) rfl rfl rfl rfl ?_ ?_
        rotate_left
        · intro a hF w' hw
          have s190 := hF.slot 190 _ rfl
          have s198 := hF.slot 198 _ rfl
          clear hw
          clear hF
          go_simp <;> with_reducible rfl
        refine Chain.move rfl rfl rfl rfl rfl rfl ?_
        refine Chain.move rfl rfl rfl rfl rfl rfl ?_
        refine Chain.move rfl rfl rfl rfl rfl rfl ?_
        refine Chain.step (v := ?_) rfl rfl rfl rfl ?_ ?_
        rotate_left
        · intro a hF w' hw
          have s201 := hF.slot 201 _ rfl
          have s202 := hF.slot 202 _ rfl
          clear hw
          clear hF
          go_simp <;> with_reducible rfl
        refine Chain.step (v := ?_) rfl rfl rfl rfl ?_ ?_
        rotate_left
        · intro a hF w' hw
          have s203 := hF.slot 203 _ rfl
          clear hw
          clear hF
          go_simp <;> with_reducible rfl
        refine Chain.step (v := ?_) rfl rfl rfl rfl ?_ ?_
        rotate_left
        · intro a hF w' hw
          have s204 := hF.slot 204 _ rfl
          cases hw rfl
          clear hF
          go_simp <;> with_reducible rfl
        refine Chain.step (v := ?_) rfl rfl rfl rfl ?_ ?_
        rotate_left
        · intro a hF w' hw
          have s10 := hF.slot 10 _ rfl
          clear hw
          clear hF
          go_simp <;> with_reducible rfl
        refine Chain.step (v := ?_) rfl rfl rfl rfl ?_ ?_
        rotate_left
        · intro a hF w' hw
          have s206 := hF.slot 206 _ rfl
          cases hw rfl
          clear hF
          go_simp <;> with_reducible rfl
        refine Chain.step (v := ?_) rfl rfl rfl rfl ?_ ?_
        rotate_left
        · intro a hF w' hw
          have s205 := hF.slot 205 _ rfl
          have s207 := hF.slot 207 _ rfl
          clear hw
          clear hF
          go_simp <;> with_reducible rfl
        refine Chain.step (v := ?_) rfl rfl rfl rfl ?_ ?_
        rotate_left
        · intro a hF w' hw
          have s200 := hF.slot 200 _ rfl
          have s208 := hF.slot 208 _ rfl
          clear hw
          clear hF
          go_simp <;> with_reducible rfl
        refine hC _ (fun a hF => ?_)
        clear hC C
        refine any_end (by kernel_rfl) ?_
        replace hF := hF.sub (e' := [(1, _), (2, _), (7, _), (8, _), (9, _), (10, _), (14, _), (209, _)]) ⟨rfl, rfl, rfl, rfl, rfl, rfl, rfl, rfl, trivial⟩
        refine hK _ _ ?_
        clear hK K
        refine cond_yes hF rfl ?_
        clear x0 x1 x2 x3 x4 c0 c1 c2 c4
        obtain ⟨x0, x1, x2, x3, x4⟩ := XIn.cells (w := w4.drew.drew) HG4.out
        refine region_any (by kernel_rfl) ?_
        refine any_chain (fuel := 2) [(0, false), (1, false), (2, true), (3, false), (4, true), (5, false), (6, true), (7, false), (8, true), (9, false), (10, false), (11, false), (12, false), (13, true), (14, false)] [15] rfl (by kernel_rfl) (by kernel_rfl) hF (fun _ _ d _ _ h => by cases d <;> exact h) (fun C hC => ?_)
        clear hF
        refine Chain.move rfl rfl rfl rfl rfl rfl ?_
        refine Chain.step (v := ?_) rfl rfl rfl rfl ?_ ?_
        rotate_left
        · intro a hF w' hw
          have s10 := hF.slot 10 _ rfl
          clear hw
          clear hF
          go_simp <;> with_reducible rfl
        refine Chain.step (v := ?_) rfl rfl rfl rfl ?_ ?_
        rotate_left
        · intro a hF w' hw
          have s211 := hF.slot 211 _ rfl
          cases hw rfl
          clear hF
          go_simp <;> with_reducible rfl
        refine Chain.step (v := ?_) rfl rfl rfl rfl ?_ ?_
        rotate_left
        · intro a hF w' hw
          have s10 := hF.slot 10 _ rfl
          clear hw
          clear hF
          go_simp <;> with_reducible rfl
        refine Chain.step (v := ?_) rfl rfl rfl rfl ?_ ?_
        rotate_left
        · intro a hF w' hw
          have s213 := hF.slot 213 _ rfl
          cases hw rfl
          clear hF
          go_simp <;> with_reducible rfl
        refine Chain.step (v := ?_) rfl rfl rfl rfl ?_ ?_
        rotate_left
        · intro a hF w' hw
          have s10 := hF.slot 10 _ rfl
          clear hw
          clear hF
          go_simp <;> with_reducible rfl
        refine Chain.step (v := ?_) rfl rfl rfl rfl ?_ ?_
        rotate_left
        · intro a hF w' hw
          have s215 := hF.slot 215 _ rfl
          cases hw rfl
          clear hF
          go_simp <;> with_reducible rfl
        refine Chain.step (v := ?_) rfl rfl rfl rfl ?_ ?_
        rotate_left
        · intro a hF w' hw
          have s10 := hF.slot 10 _ rfl
          clear hw
          clear hF
          go_simp <;> with_reducible rfl
        refine Chain.step (v := ?_) rfl rfl rfl rfl ?_ ?_
        rotate_left
        · intro a hF w' hw
          have s217 := hF.slot 217 _ rfl
          cases hw rfl
          clear hF
          go_simp <;> with_reducible rfl
        refine Chain.move rfl rfl rfl rfl rfl rfl ?_
        refine Chain.move rfl rfl rfl rfl rfl rfl ?_
        refine Chain.step (v := ?_) rfl rfl rfl rfl ?_ ?_
        rotate_left
        · intro a hF w' hw
          have s219 := hF.slot 219 _ rfl
          have s220 := hF.slot 220 _ rfl
          clear hw
          clear hF
          go_simp <;> with_reducible rfl
        refine Chain.step (v := ?_) rfl rfl rfl rfl ?_ ?_
        rotate_left
        · intro a hF w' hw
          have s221 := hF.slot 221 _ rfl
          clear hw
          clear hF
          go_simp <;> with_reducible rfl
        refine Chain.step (v := ?_) rfl rfl rfl rfl ?_ ?_
        rotate_left
        · intro a hF w' hw
          have s222 := hF.slot 222 _ rfl
          cases hw rfl
          clear hF
          go_simp <;> with_reducible rfl
        refine Chain.step (v := ?_) rfl rfl rfl rfl ?_ ?_
        rotate_left
        · intro a hF w' hw
          have s212 := hF.slot 212 _ rfl
          have s214 := hF.slot 214 _ rfl
          have s216 := hF.slot 216 _ rfl
          have s218 := hF.slot 218 _ rfl
          have s223 := hF.slot 223 _ rfl
          clear hw
          clear hF
          go_simp <;> with_reducible rfl
        refine hC _ (fun a hF => ?_)
        clear hC C
        refine any_one (n := 15) (fuel := 1) (by kernel_rfl) ?_
        refine op_call [_, _] rfl rfl hF rfl (by kernel_rfl) ⟨rfl, rfl, trivial⟩ (fun K hK => ?_)
        clear hF
        refine (blo_add (HO4.out.down (below_d (below_d (Below.refl _ _)))) (by omega) ⟨2, x.serial, x.gate, x.number, x.gate, y.number⟩).mono ?_
        rintro e w5 ⟨v5, rfl, hO, hfar⟩
        refine hK _ _ (fun a hF => ?_)
        clear hK K
        refine any_chain (fuel := 0) [(16, false)] [] rfl (by kernel_rfl) (by kernel_rfl) hF (fun _ _ d _ _ h => by cases d <;> exact h) (fun C hC => ?_)
        clear hF
        refine Chain.assign rfl rfl rfl rfl rfl rfl ?_
        refine hC _ (fun a hF => ?_)
        clear hC C
        refine any_end (by kernel_rfl) ?_
        replace hF := hF.sub (e' := [(1, _), (2, _), (7, _), (8, _), (9, _), (10, _)]) ⟨rfl, rfl, rfl, rfl, rfl, rfl, trivial⟩
        refine hKH _ _ ⟨_, hF, hO.iff (by omega) fun b => ?_, hfar _ _ _ _ HG4.out (by decide)⟩
        rw [← HD3.out b, HDT.out]
        simp only [Option.some.injEq, exists_eq_left', true_and, HY.out]
        exact ⟨fun h => h.elim Or.inr Or.inl, fun h => h.elim Or.inr Or.inl⟩
    clear HO4 HG4 hF HD2 HD HTR HXm
    rintro a w4 ⟨v8, hF, HO4, HG4⟩
    obtain ⟨x0, x1, x2, x3, x4⟩ := HG4.out.cells
    have HSI := Lib.hid (since_any ga gn gc gone x.serial w4 (HG1.out.below HO4.out.below) (by omega))
    have HLS : Hid (lateB G st x = (decide (0 < sinceG G x.serial) && decide (sinceG G x.serial + st < x.time))) := late_since HHK.out
    have HSE : Hid (0 < sinceG G x.serial → sinceG G x.serial = sinceS G x.serial) := fun h => by
      unfold sinceG at h ⊢
      split at h
      · rename_i h1; rw [if_pos h1]
      · omega
    have hsb : 0 ≤ sinceG G x.serial ∧ sinceG G x.serial ≤ 1000000000 := by
      unfold sinceG
      split <;> omega
    rw [← HGD.out] at HSI
    generalize sinceG G x.serial = g at *
    refine wp_seq_k (fun K hK => ?_)
    refine region_seq (l := [0, 1, 2, 3, 4]) (by kernel_rfl) ?_
    refine seq_chain [(0, true), (1, true), (2, true)] [3, 4] rfl hF (fun C hC => ?_)
    clear hF
    refine Chain.move rfl rfl rfl rfl rfl rfl ?_
    refine Chain.step (v := ?_) rfl rfl rfl rfl ?_ ?_
    rotate_left
    · intro a hF w' hw
      have s10 := hF.slot 10 _ rfl
      cases hw rfl
      clear hF
      go_simp <;> with_reducible rfl
    refine Chain.step (v := ?_) rfl rfl rfl rfl ?_ ?_
    rotate_left
    · intro a hF w' hw
      have s227 := hF.slot 227 _ rfl
      cases hw rfl
      clear hF
      go_simp <;> with_reducible rfl
    refine hC _ (fun a hF => ?_)
    clear hC C
    refine seq_one ?_
    refine op_call [_, _] rfl rfl hF rfl (by kernel_rfl) ⟨rfl, rfl, trivial⟩ (fun K hK => ?_)
    clear hF
    refine HSI.out.mono ?_
    rintro e w' ⟨rfl, rfl⟩
    clear HSI
    refine hK _ _ (fun a hF => ?_)
    clear hK K
    refine seq_chain [(4, true)] [] rfl hF (fun C hC => ?_)
    clear hF
    refine Chain.assign rfl rfl rfl rfl rfl rfl ?_
    refine hC _ (fun a hF => ?_)
    clear hC C
    refine seq_end ?_
    replace hF := hF.sub (e' := [(1, _), (2, _), (7, _), (8, _), (9, _), (10, _), (15, _)]) ⟨rfl, rfl, rfl, rfl, rfl, rfl, rfl, trivial⟩
    refine hK _ _ ?_
    clear hK K
    refine wp_seq_k (fun K hK => ?_)
    have HEND : Hid (∀ b, lateB G st x = false → (((∃ j, j < i ∧ PA1 G st X j b) ∨ P1 X i b ∨ P2 X i b) ↔ ∃ j, j < i + 1 ∧ PA1 G st X j b)) := fun b h => by
      rw [← HNX.out b]
      have h3 : ¬ P3 G st X i b := fun h4 => by
        have := ((HP3I.out b).mp h4).1
        rw [h] at this
        cases this
      exact ⟨fun h => by rcases h with h | h | h; exact Or.inl h; exact Or.inr (Or.inl h); exact Or.inr (Or.inr (Or.inl h)), fun h => by rcases h with h | h | h | h; exact Or.inl h; exact Or.inr (Or.inl h); exact Or.inr (Or.inr h); exact absurd h h3⟩
    obtain ⟨hg0, hg1⟩ := hsb
    have hws : IntKind.i64.wrap (g + st) = g + st := wrap_in (by omega) (by omega)
    by_cases h1 : 0 < g
    rotate_left
    · have HN : Hid (BlO w1 (4 * (i + 1)) (fun b => ∃ j, j < i + 1 ∧ PA1 G st X j b) v8 w4) := HO4.out.iff (by omega) fun b => HEND.out b (HLS.out.trans (by simp [h1]))
      have hb2 : decide (0 < g) = false := decide_eq_false h1
      clear hws hg0 hg1
      refine region_seq (l := [0, 1, 2, 3, 4, 5, 6, 7, 8, 9]) (by kernel_rfl) ?_
      refine seq_chain [(0, true), (1, true), (2, true), (3, true), (4, true), (5, true), (6, true), (7, true), (8, true), (9, true)] [] rfl hF (fun C hC => ?_)
      clear hF
      refine Chain.move rfl rfl rfl rfl rfl rfl ?_
      refine Chain.step (v := ?_) rfl rfl rfl rfl ?_ ?_
      rotate_left
      · intro a hF w' hw
        have s230 := hF.slot 230 _ rfl
        cases hw rfl
        clear hF
        go_simp <;> with_reducible rfl
      refine Chain.move rfl rfl rfl rfl rfl rfl ?_
      refine Chain.skip rfl rfl rfl rfl ?_
      refine Chain.skip rfl rfl rfl rfl ?_
      refine Chain.skip rfl rfl rfl rfl ?_
      refine Chain.skip rfl rfl rfl rfl ?_
      refine Chain.skip rfl rfl rfl rfl ?_
      refine Chain.skip rfl rfl rfl rfl ?_
      refine Chain.step (v := ?_) rfl rfl rfl rfl ?_ ?_
      rotate_left
      · intro a hF w' hw
        have s232 := hF.slot 232 _ rfl
        have s238 := hF.slot 238 _ rfl
        cases hw rfl
        clear hF
        go_simp <;> with_reducible rfl
      refine hC _ (fun a hF => ?_)
      clear hC C
      refine seq_end ?_
      replace hF := hF.sub (e' := [(1, _), (2, _), (7, _), (8, _), (9, _), (10, _), (15, _), (239, _)]) ⟨rfl, rfl, rfl, rfl, rfl, rfl, rfl, rfl, trivial⟩
      refine hK _ _ ?_
      clear hK K
      refine cond_no hF rfl ?_
      refine wp_skip ?_
      exact hKC _ _ ⟨_, hF.sub ⟨rfl, rfl, rfl, rfl, rfl, trivial⟩, HN⟩
    have hb2 : decide (0 < g) = true := decide_eq_true h1
    by_cases h2 : g + st < x.time
    rotate_left
    · have HN : Hid (BlO w1 (4 * (i + 1)) (fun b => ∃ j, j < i + 1 ∧ PA1 G st X j b) v8 w4) := HO4.out.iff (by omega) fun b => HEND.out b (HLS.out.trans (by simp [h2]))
      have hb3 : decide (g + st < x.time) = false := decide_eq_false h2
      clear hg0 hg1
      refine region_seq (l := [0, 1, 2, 3, 4, 5, 6, 7, 8, 9]) (by kernel_rfl) ?_
      refine seq_chain [(0, true), (1, true), (2, true), (3, true), (4, true), (5, true), (6, true), (7, true), (8, true), (9, true)] [] rfl hF (fun C hC => ?_)
      clear hF
      refine Chain.move rfl rfl rfl rfl rfl rfl ?_
      refine Chain.step (v := ?_) rfl rfl rfl rfl ?_ ?_
      rotate_left
      · intro a hF w' hw
        have s230 := hF.slot 230 _ rfl
        cases hw rfl
        clear hF
        go_simp <;> with_reducible rfl
      refine Chain.move rfl rfl rfl rfl rfl rfl ?_
      refine Chain.step (v := ?_) rfl rfl rfl rfl ?_ ?_
      rotate_left
      · intro a hF w' hw
        have s10 := hF.slot 10 _ rfl
        cases hw rfl
        clear hF
        go_simp <;> with_reducible rfl
      refine Chain.step (v := ?_) rfl rfl rfl rfl ?_ ?_
      rotate_left
      · intro a hF w' hw
        have s233 := hF.slot 233 _ rfl
        cases hw rfl
        clear hF
        go_simp <;> with_reducible rfl
      refine Chain.move rfl rfl rfl rfl rfl rfl ?_
      refine Chain.move rfl rfl rfl rfl rfl rfl ?_
      refine Chain.step (v := ?_) rfl rfl rfl rfl ?_ ?_
      rotate_left
      · intro a hF w' hw
        have s235 := hF.slot 235 _ rfl
        have s236 := hF.slot 236 _ rfl
        cases hw rfl
        clear hF
        go_simp <;> with_reducible rfl
      refine Chain.step (v := ?_) rfl rfl rfl rfl ?_ ?_
      rotate_left
      · intro a hF w' hw
        have s234 := hF.slot 234 _ rfl
        have s237 := hF.slot 237 _ rfl
        cases hw rfl
        clear hF
        go_simp <;> with_reducible rfl
      refine Chain.step (v := ?_) rfl rfl rfl rfl ?_ ?_
      rotate_left
      · intro a hF w' hw
        have s232 := hF.slot 232 _ rfl
        have s238 := hF.slot 238 _ rfl
        cases hw rfl
        clear hF
        go_simp <;> with_reducible rfl
      refine hC _ (fun a hF => ?_)
      clear hC C
      refine seq_end ?_
      replace hF := hF.sub (e' := [(1, _), (2, _), (7, _), (8, _), (9, _), (10, _), (15, _), (239, _)]) ⟨rfl, rfl, rfl, rfl, rfl, rfl, rfl, rfl, trivial⟩
      refine hK _ _ ?_
      clear hK K
      refine cond_no hF rfl ?_
      refine wp_skip ?_
      exact hKC _ _ ⟨_, hF.sub ⟨rfl, rfl, rfl, rfl, rfl, trivial⟩, HN⟩
    have hb3 : decide (g + st < x.time) = true := decide_eq_true h2
    have HLT : Hid (lateB G st x = true) := HLS.out.trans (by simp [h1, h2])
    clear hg0 hg1 HEND
    refine region_seq (l := [0, 1, 2, 3, 4, 5, 6, 7, 8, 9]) (by kernel_rfl) ?_
    refine seq_chain [(0, true), (1, true), (2, true), (3, true), (4, true), (5, true), (6, true), (7, true), (8, true), (9, true)] [] rfl hF (fun C hC => ?_)
    clear hF
    refine Chain.move rfl rfl rfl rfl rfl rfl ?_
    refine Chain.step (v := ?_) rfl rfl rfl rfl ?_ ?_
    rotate_left
    · intro a hF w' hw
      have s230 := hF.slot 230 _ rfl
      cases hw rfl
      clear hF
      go_simp <;> with_reducible rfl
    refine Chain.move rfl rfl rfl rfl rfl rfl ?_
    refine Chain.step (v := ?_) rfl rfl rfl rfl ?_ ?_
    rotate_left
    · intro a hF w' hw
      have s10 := hF.slot 10 _ rfl
      cases hw rfl
      clear hF
      go_simp <;> with_reducible rfl
    refine Chain.step (v := ?_) rfl rfl rfl rfl ?_ ?_
    rotate_left
    · intro a hF w' hw
      have s233 := hF.slot 233 _ rfl
      cases hw rfl
      clear hF
      go_simp <;> with_reducible rfl
    refine Chain.move rfl rfl rfl rfl rfl rfl ?_
    refine Chain.move rfl rfl rfl rfl rfl rfl ?_
    refine Chain.step (v := ?_) rfl rfl rfl rfl ?_ ?_
    rotate_left
    · intro a hF w' hw
      have s235 := hF.slot 235 _ rfl
      have s236 := hF.slot 236 _ rfl
      cases hw rfl
      clear hF
      go_simp <;> with_reducible rfl
    refine Chain.step (v := ?_) rfl rfl rfl rfl ?_ ?_
    rotate_left
    · intro a hF w' hw
      have s234 := hF.slot 234 _ rfl
      have s237 := hF.slot 237 _ rfl
      cases hw rfl
      clear hF
      go_simp <;> with_reducible rfl
    refine Chain.step (v := ?_) rfl rfl rfl rfl ?_ ?_
    rotate_left
    · intro a hF w' hw
      have s232 := hF.slot 232 _ rfl
      have s238 := hF.slot 238 _ rfl
      cases hw rfl
      clear hF
      go_simp <;> with_reducible rfl
    refine hC _ (fun a hF => ?_)
    clear hC C
    refine seq_end ?_
    replace hF := hF.sub (e' := [(1, _), (2, _), (7, _), (8, _), (9, _), (10, _), (15, _), (239, _)]) ⟨rfl, rfl, rfl, rfl, rfl, rfl, rfl, rfl, trivial⟩
    refine hK _ _ ?_
    clear hK K
    refine cond_yes hF rfl ?_
    refine region_seq (l := [0, 1, 2, 3, 4, 5, 6, 7, 8, 9, 10]) (by kernel_rfl) ?_
    refine seq_chain [(0, true), (1, true), (2, true), (3, true), (4, true), (5, true), (6, true), (7, true), (8, true)] [9, 10] rfl hF (fun C hC => ?_)
    clear hF
    refine Chain.move rfl rfl rfl rfl rfl rfl ?_
    refine Chain.step (v := ?_) rfl rfl rfl rfl ?_ ?_
    rotate_left
    · intro a hF w' hw
      have s10 := hF.slot 10 _ rfl
      cases hw rfl
      clear hF
      go_simp <;> with_reducible rfl
    refine Chain.step (v := ?_) rfl rfl rfl rfl ?_ ?_
    rotate_left
    · intro a hF w' hw
      have s241 := hF.slot 241 _ rfl
      cases hw rfl
      clear hF
      go_simp <;> with_reducible rfl
    refine Chain.step (v := ?_) rfl rfl rfl rfl ?_ ?_
    rotate_left
    · intro a hF w' hw
      have s10 := hF.slot 10 _ rfl
      cases hw rfl
      clear hF
      go_simp <;> with_reducible rfl
    refine Chain.step (v := ?_) rfl rfl rfl rfl ?_ ?_
    rotate_left
    · intro a hF w' hw
      have s243 := hF.slot 243 _ rfl
      cases hw rfl
      clear hF
      go_simp <;> with_reducible rfl
    refine Chain.step (v := ?_) rfl rfl rfl rfl ?_ ?_
    rotate_left
    · intro a hF w' hw
      have s10 := hF.slot 10 _ rfl
      cases hw rfl
      clear hF
      go_simp <;> with_reducible rfl
    refine Chain.step (v := ?_) rfl rfl rfl rfl ?_ ?_
    rotate_left
    · intro a hF w' hw
      have s245 := hF.slot 245 _ rfl
      cases hw rfl
      clear hF
      go_simp <;> with_reducible rfl
    refine Chain.move rfl rfl rfl rfl rfl rfl ?_
    refine Chain.step (v := ?_) rfl rfl rfl rfl ?_ ?_
    rotate_left
    · intro a hF w' hw
      have s242 := hF.slot 242 _ rfl
      have s244 := hF.slot 244 _ rfl
      have s246 := hF.slot 246 _ rfl
      have s247 := hF.slot 247 _ rfl
      cases hw rfl
      clear hF
      go_simp <;> with_reducible rfl
    refine hC _ (fun a hF => ?_)
    clear hC C
    refine seq_one ?_
    refine op_call [_, _] rfl rfl hF rfl (by kernel_rfl) ⟨rfl, rfl, trivial⟩ (fun K hK => ?_)
    clear hF
    refine (blo_add HO4.out (by omega) (staleB x g)).mono ?_
    rintro e w5 ⟨v5, rfl, hO, hfar⟩
    refine hK _ _ (fun a hF => ?_)
    clear hK K
    refine seq_chain [(10, true)] [] rfl hF (fun C hC => ?_)
    clear hF
    refine Chain.assign rfl rfl rfl rfl rfl rfl ?_
    refine hC _ (fun a hF => ?_)
    clear hC C
    refine seq_end ?_
    replace hF := hF.sub (e' := [(1, _), (2, _), (7, _), (8, _), (9, _)]) ⟨rfl, rfl, rfl, rfl, rfl, trivial⟩
    refine hKC _ _ ⟨_, hF, hO.iff (by omega) fun b => ?_⟩
    rw [← HNX.out b, HP3I.out b, HLT.out, ← HSE.out h1]
    simp only [true_and]
    exact ⟨fun h => by rcases h with h | h | h | h; exact Or.inr (Or.inr (Or.inr h)); exact Or.inl h; exact Or.inr (Or.inl h); exact Or.inr (Or.inr (Or.inl h)), fun h => by rcases h with h | h | h | h; exact Or.inr (Or.inl h); exact Or.inr (Or.inr (Or.inl h)); exact Or.inr (Or.inr (Or.inr h)); exact Or.inl h⟩
  clear hF
  rintro a w2 ⟨v8, hF, HO⟩
  refine seq_cut (fun a' w' => ∃ v8, FrF 333 [] [(8, v8)] a' ∧ Hid (BlO w1 (4 * X.length + 4000 * X.length) (fun b => (∃ j, j < X.length ∧ PA1 G st X j b) ∨ ∃ j, j < X.length ∧ P4 X j b) v8 w')) (fun KA hKA => ?_) ?_
  rotate_left
  · clear hF HO
    rintro a w3 ⟨v8, hF, HO⟩
    refine wp_seq_k (fun K hK => ?_)
    refine region_seq (l := [0, 1]) (by kernel_rfl) ?_
    refine seq_chain [(0, true), (1, true)] [] rfl hF (fun C hC => ?_)
    clear hF
    refine Chain.move rfl rfl rfl rfl rfl rfl ?_
    refine Chain.assign rfl rfl rfl rfl rfl rfl ?_
    refine hC _ (fun a hF => ?_)
    clear hC C
    refine seq_end ?_
    replace hF := hF.sub (e' := [(6, _)]) ⟨rfl, trivial⟩
    refine hK _ _ ?_
    clear hK K
    refine wp_ret ?_
    obtain ⟨O, hO, hOs, _, hOm, hOb⟩ := HO.out
    have hOe : O = blamesS G stale l := strict_ext KB hOs (by rw [HGD.out]; exact HSB.out) fun b => (hOm b).trans (HPL.out b).symm
    rw [hOe, HGD.out] at hO
    refine ret_fr (rs := [.tmp 6]) rfl [_] hF ⟨rfl, trivial⟩ ⟨_, rfl, row_down HB1.out.size hO, HB1.out.trans (hOb.mono HB1.out.size)⟩
  refine wp_seq_k (fun K hK => ?_)
  refine region_seq (l := [0]) (by kernel_rfl) ?_
  refine seq_chain [(0, true)] [] rfl hF (fun C hC => ?_)
  clear hF
  refine Chain.assign rfl rfl rfl rfl rfl rfl ?_
  refine hC _ (fun a hF => ?_)
  clear hC C
  refine seq_end ?_
  replace hF := hF.sub (e' := [(7, _), (8, _), (16, _)]) ⟨rfl, rfl, rfl, trivial⟩
  refine hK _ _ ?_
  clear hK K
  refine wp_block ?_
  refine loop_fr (fun n a' w' => ∃ (i : Nat) (v8 : Value), i + n = X.length ∧ FrF 333 [] [(7, .slice xa X.length xc), (8, v8), (16, .int .i64 i)] a' ∧ Hid (BlO w1 (4 * X.length + 4000 * i) (fun b => (∃ j, j < X.length ∧ PA1 G st X j b) ∨ ∃ j, j < i ∧ P4 X j b) v8 w')) X.length ⟨0, _, by omega, hF, HO.out.iff (by omega) fun b => ⟨Or.inl, fun h => h.elim id fun ⟨j, hj, _⟩ => by omega⟩⟩ ?_
  clear hF HO
  rintro rk a wr ⟨i, v8, hik, hF, HO⟩ KB hKB
  refine wp_seq_k (fun K hK => ?_)
  refine wp_seq_k (fun K hK => ?_)
  by_cases hlt : i < X.length
  rotate_left
  · refine region_seq (l := [0, 1, 2, 3]) (by kernel_rfl) ?_
    refine seq_chain [(0, true), (1, true), (2, true), (3, true)] [] rfl hF (fun C hC => ?_)
    clear hF
    refine Chain.move rfl rfl rfl rfl rfl rfl ?_
    refine Chain.move rfl rfl rfl rfl rfl rfl ?_
    refine Chain.step (v := ?_) rfl rfl rfl rfl ?_ ?_
    rotate_left
    · intro a hF w' hw
      have s251 := hF.slot 251 _ rfl
      cases hw rfl
      clear hF
      go_simp <;> with_reducible rfl
    refine Chain.step (v := ?_) rfl rfl rfl rfl ?_ ?_
    rotate_left
    · intro a hF w' hw
      have s250 := hF.slot 250 _ rfl
      have s252 := hF.slot 252 _ rfl
      cases hw rfl
      clear hF
      go_simp <;> with_reducible rfl
    refine hC _ (fun a hF => ?_)
    clear hC C
    refine seq_end ?_
    replace hF := hF.sub (e' := [(7, _), (8, _), (16, _), (253, _)]) ⟨rfl, rfl, rfl, rfl, trivial⟩
    refine hK _ _ ?_
    clear hK K
    refine cond_no hF rfl ?_
    refine wp_exit ?_
    have hii : i = X.length := by omega
    subst hii
    exact hKA _ _ ⟨_, hF.sub ⟨rfl, trivial⟩, HO⟩
  refine region_seq (l := [0, 1, 2, 3]) (by kernel_rfl) ?_
  refine seq_chain [(0, true), (1, true), (2, true), (3, true)] [] rfl hF (fun C hC => ?_)
  clear hF
  refine Chain.move rfl rfl rfl rfl rfl rfl ?_
  refine Chain.move rfl rfl rfl rfl rfl rfl ?_
  refine Chain.step (v := ?_) rfl rfl rfl rfl ?_ ?_
  rotate_left
  · intro a hF w' hw
    have s251 := hF.slot 251 _ rfl
    cases hw rfl
    clear hF
    go_simp <;> with_reducible rfl
  refine Chain.step (v := ?_) rfl rfl rfl rfl ?_ ?_
  rotate_left
  · intro a hF w' hw
    have s250 := hF.slot 250 _ rfl
    have s252 := hF.slot 252 _ rfl
    cases hw rfl
    clear hF
    go_simp <;> with_reducible rfl
  refine hC _ (fun a hF => ?_)
  clear hC C
  refine seq_end ?_
  replace hF := hF.sub (e' := [(7, _), (8, _), (16, _), (253, _)]) ⟨rfl, rfl, rfl, rfl, trivial⟩
  refine hK _ _ ?_
  clear hK K
  refine cond_yes hF rfl ?_
  refine wp_skip ?_
  refine hK _ _ ?_
  clear hK K
  replace hF := hF.sub (e' := [(7, _), (8, _), (16, _)]) ⟨rfl, rfl, rfl, trivial⟩
  clear hKA
  obtain ⟨b1, o1, rfl, c0, c1, c2, c3, c4, c5⟩ := scn_at (HX.out.below HO.out.below) i hlt hlt
  have hii : (i : Int) < X.length := by omega
  have HXm : Hid (∀ (m : Nat) (hm : m < X.length) (w' : World), Below w1.heap.size w1 w' → w'.cell? ⟨b1, o1 + m * 6, none⟩ = some (.int .i64 X[m].gate) ∧ w'.cell? ⟨b1, o1 + m * 6 + 1, none⟩ = some (.int .i64 X[m].number)) := fun m hm w' hb => by
    obtain ⟨_, _, e', d0, d1, d2, _, d4, _⟩ := scn_at (HX.out.below hb) m hm hm
    cases e'
    exact ⟨d0, d1⟩
  have HFK := Lib.hid (fun g nu (wx : World) (hb : Below w1.heap.size w1 wx) => find_any (some ⟨b1, o1, none⟩) X.length xc X g nu wx (HX.out.below hb) (by omega))
  have HP4 := Lib.hid (fun b => p4_iff hlt b)
  have HFS := Lib.hid (find_self hlt)
  have HNX : Hid (∀ b, (((∃ j, j < X.length ∧ PA1 G st X j b) ∨ ∃ j, j < i ∧ P4 X j b) ∨ P4 X i b) ↔ ((∃ j, j < X.length ∧ PA1 G st X j b) ∨ ∃ j, j < i + 1 ∧ P4 X j b)) := fun b => by
    constructor
    · rintro ((h | ⟨j, hj, h⟩) | h)
      · exact Or.inl h
      · exact Or.inr ⟨j, by omega, h⟩
      · exact Or.inr ⟨i, by omega, h⟩
    · rintro (h | ⟨j, hj, h⟩)
      · exact Or.inl (Or.inl h)
      · by_cases e : j = i
        · subst e; exact Or.inr h
        · exact Or.inl (Or.inr ⟨j, by omega, h⟩)
  refine seq_cut (fun a' w' => ∃ v8, FrF 333 [] [(7, .slice (some ⟨b1, o1, none⟩) X.length xc), (8, v8), (16, .int .i64 i)] a' ∧ Hid (BlO w1 (4 * X.length + 4000 * (i + 1)) (fun b => (∃ j, j < X.length ∧ PA1 G st X j b) ∨ ∃ j, j < i + 1 ∧ P4 X j b) v8 w')) (fun KC hKC => ?_) ?_
  rotate_left
  · clear HXm HFK HP4 HFS HNX c0 c1 c2 c3 c4 c5 HO hF
    rintro a w' ⟨v8, hF, HO⟩
    have hws : IntKind.i64.wrap ((i : Int) + 1) = ((i + 1 : Nat) : Int) := wrap_succ (by omega)
    refine region_seq (l := [0, 1, 2]) (by kernel_rfl) ?_
    refine seq_chain [(0, true), (1, true), (2, true)] [] rfl hF (fun C hC => ?_)
    clear hF
    refine Chain.move rfl rfl rfl rfl rfl rfl ?_
    refine Chain.step (v := ?_) rfl rfl rfl rfl ?_ ?_
    rotate_left
    · intro a hF w' hw
      have s254 := hF.slot 254 _ rfl
      cases hw rfl
      clear hF
      go_simp <;> with_reducible rfl
    refine Chain.assign rfl rfl rfl rfl rfl rfl ?_
    refine hC _ (fun a hF => ?_)
    clear hC C
    refine seq_end ?_
    replace hF := hF.sub (e' := [(7, _), (8, _), (16, _)]) ⟨rfl, rfl, rfl, trivial⟩
    exact hKB (X.length - (i + 1)) _ _ (by omega) ⟨i + 1, v8, by omega, hF, HO⟩
  clear hKB hik
  refine wp_block ?_
  refine wp_seq_k (fun K hK => ?_)
  refine region_seq (l := [0, 1, 2, 3, 4, 5]) (by kernel_rfl) ?_
  refine seq_chain [(0, true), (1, true), (2, true), (3, true), (4, true), (5, true)] [] rfl hF (fun C hC => ?_)
  clear hF
  refine Chain.move rfl rfl rfl rfl rfl rfl ?_
  refine Chain.move rfl rfl rfl rfl rfl rfl ?_
  refine Chain.step (v := ?_) rfl rfl rfl rfl ?_ ?_
  rotate_left
  · intro a hF w' hw
    have s256 := hF.slot 256 _ rfl
    have s257 := hF.slot 257 _ rfl
    cases hw rfl
    clear hF
    go_simp <;> with_reducible rfl
  refine Chain.step (v := ?_) rfl rfl rfl rfl ?_ ?_
  rotate_left
  · intro a hF w' hw
    have s258 := hF.slot 258 _ rfl
    cases hw rfl
    clear hF
    go_simp <;> with_reducible rfl
  refine Chain.step (v := ?_) rfl rfl rfl rfl ?_ ?_
  rotate_left
  · intro a hF w' hw
    have s259 := hF.slot 259 _ rfl
    cases hw rfl
    clear hF
    go_simp <;> with_reducible rfl
  refine Chain.assign rfl rfl rfl rfl rfl rfl ?_
  refine hC _ (fun a hF => ?_)
  clear hC C
  refine seq_end ?_
  replace hF := hF.sub (e' := [(7, _), (8, _), (16, _), (17, _)]) ⟨rfl, rfl, rfl, rfl, trivial⟩
  refine hK _ _ ?_
  clear hK K
  clear c0 c1 c2 c3 c4 c5
  refine seq_cut (fun a' w' => ∃ most : Int, FrF 333 [] [(7, .slice (some ⟨b1, o1, none⟩) X.length xc), (8, v8), (16, .int .i64 i), (17, .int .i64 most)] a' ∧ Hid (IsMost X X[i] X.length most) ∧ Hid (Below wr.heap.size wr w')) (fun KD hKD => ?_) ?_
  · clear hKC HNX HFS HP4 HFK
    refine wp_seq_k (fun K hK => ?_)
    refine region_seq (l := [0]) (by kernel_rfl) ?_
    refine seq_chain [(0, true)] [] rfl hF (fun C hC => ?_)
    clear hF
    refine Chain.assign rfl rfl rfl rfl rfl rfl ?_
    refine hC _ (fun a hF => ?_)
    clear hC C
    refine seq_end ?_
    replace hF := hF.sub (e' := [(7, _), (8, _), (16, _), (17, _), (18, _)]) ⟨rfl, rfl, rfl, rfl, rfl, trivial⟩
    refine hK _ _ ?_
    clear hK K
    refine wp_block ?_
    refine loop_fr (fun n a' w' => ∃ (k : Nat) (most : Int), k + n = X.length ∧ FrF 333 [] [(7, .slice (some ⟨b1, o1, none⟩) X.length xc), (8, v8), (16, .int .i64 i), (17, .int .i64 most), (18, .int .i64 k)] a' ∧ Hid (IsMost X X[i] k most) ∧ Hid (Below wr.heap.size wr w')) X.length ⟨0, _, by omega, hF, most_start hlt, Below.refl _ _⟩ ?_
    clear hF
    rintro rk a wx ⟨k, most, hkk, hF, HM, HB⟩ KE hKE
    refine wp_seq_k (fun K hK => ?_)
    refine wp_seq_k (fun K hK => ?_)
    by_cases hltk : k < X.length
    rotate_left
    · refine region_seq (l := [0, 1, 2, 3]) (by kernel_rfl) ?_
      refine seq_chain [(0, true), (1, true), (2, true), (3, true)] [] rfl hF (fun C hC => ?_)
      clear hF
      refine Chain.move rfl rfl rfl rfl rfl rfl ?_
      refine Chain.move rfl rfl rfl rfl rfl rfl ?_
      refine Chain.step (v := ?_) rfl rfl rfl rfl ?_ ?_
      rotate_left
      · intro a hF w' hw
        have s262 := hF.slot 262 _ rfl
        cases hw rfl
        clear hF
        go_simp <;> with_reducible rfl
      refine Chain.step (v := ?_) rfl rfl rfl rfl ?_ ?_
      rotate_left
      · intro a hF w' hw
        have s261 := hF.slot 261 _ rfl
        have s263 := hF.slot 263 _ rfl
        cases hw rfl
        clear hF
        go_simp <;> with_reducible rfl
      refine hC _ (fun a hF => ?_)
      clear hC C
      refine seq_end ?_
      replace hF := hF.sub (e' := [(7, _), (8, _), (16, _), (17, _), (18, _), (264, _)]) ⟨rfl, rfl, rfl, rfl, rfl, rfl, trivial⟩
      refine hK _ _ ?_
      clear hK K
      refine cond_no hF rfl ?_
      refine wp_exit ?_
      have hke : k = X.length := by omega
      subst hke
      exact hKD _ _ ⟨_, hF.sub ⟨rfl, rfl, rfl, rfl, trivial⟩, HM, HB⟩
    refine region_seq (l := [0, 1, 2, 3]) (by kernel_rfl) ?_
    refine seq_chain [(0, true), (1, true), (2, true), (3, true)] [] rfl hF (fun C hC => ?_)
    clear hF
    refine Chain.move rfl rfl rfl rfl rfl rfl ?_
    refine Chain.move rfl rfl rfl rfl rfl rfl ?_
    refine Chain.step (v := ?_) rfl rfl rfl rfl ?_ ?_
    rotate_left
    · intro a hF w' hw
      have s262 := hF.slot 262 _ rfl
      cases hw rfl
      clear hF
      go_simp <;> with_reducible rfl
    refine Chain.step (v := ?_) rfl rfl rfl rfl ?_ ?_
    rotate_left
    · intro a hF w' hw
      have s261 := hF.slot 261 _ rfl
      have s263 := hF.slot 263 _ rfl
      cases hw rfl
      clear hF
      go_simp <;> with_reducible rfl
    refine hC _ (fun a hF => ?_)
    clear hC C
    refine seq_end ?_
    replace hF := hF.sub (e' := [(7, _), (8, _), (16, _), (17, _), (18, _), (264, _)]) ⟨rfl, rfl, rfl, rfl, rfl, rfl, trivial⟩
    refine hK _ _ ?_
    clear hK K
    refine cond_yes hF rfl ?_
    refine wp_skip ?_
    refine hK _ _ ?_
    clear hK K
    replace hF := hF.sub (e' := [(7, _), (8, _), (16, _), (17, _), (18, _)]) ⟨rfl, rfl, rfl, rfl, rfl, trivial⟩
    clear hKD
    have hki : (k : Int) < X.length := by omega
    have hBw : Hid (Below w1.heap.size w1 wx) := HO.out.below.trans (HB.out.mono HO.out.below.size)
    have HMN := Lib.hid (most_next hltk HM.out)
    refine seq_cut (fun a' w' => ∃ most : Int, FrF 333 [] [(7, .slice (some ⟨b1, o1, none⟩) X.length xc), (8, v8), (16, .int .i64 i), (17, .int .i64 most), (18, .int .i64 k)] a' ∧ Hid (IsMost X X[i] (k + 1) most) ∧ Hid (Below wr.heap.size wr w')) (fun KF hKF => ?_) ?_
    rotate_left
    · clear HMN hBw HM HB hF
      rintro a w' ⟨most, hF, HM, HB⟩
      have hws : IntKind.i64.wrap ((k : Int) + 1) = ((k + 1 : Nat) : Int) := wrap_succ (by omega)
      refine region_seq (l := [0, 1, 2]) (by kernel_rfl) ?_
      refine seq_chain [(0, true), (1, true), (2, true)] [] rfl hF (fun C hC => ?_)
      clear hF
      refine Chain.move rfl rfl rfl rfl rfl rfl ?_
      refine Chain.step (v := ?_) rfl rfl rfl rfl ?_ ?_
      rotate_left
      · intro a hF w' hw
        have s265 := hF.slot 265 _ rfl
        cases hw rfl
        clear hF
        go_simp <;> with_reducible rfl
      refine Chain.assign rfl rfl rfl rfl rfl rfl ?_
      refine hC _ (fun a hF => ?_)
      clear hC C
      refine seq_end ?_
      replace hF := hF.sub (e' := [(7, _), (8, _), (16, _), (17, _), (18, _)]) ⟨rfl, rfl, rfl, rfl, rfl, trivial⟩
      exact hKE (X.length - (k + 1)) _ _ (by omega) ⟨k + 1, _, by omega, hF, HM, HB⟩
    clear hKE hkk
    refine wp_block ?_
    refine wp_seq_k (fun K hK => ?_)
    obtain ⟨d0, d1⟩ := HXm.out k hltk wx.drew (below_d hBw.out)
    obtain ⟨e0, e1⟩ := HXm.out i hlt wx.drew (below_d hBw.out)
    by_cases h1 : X[k].gate = X[i].gate
    · have hb2 : (X[k].gate == X[i].gate) = true := by simp [h1]
      have HM2 := Lib.hid (HMN.out.1 h1)
      clear h1
      refine region_any (by kernel_rfl) ?_
      refine any_chain (fuel := 0) [(0, false), (1, false), (2, false), (3, false), (4, true), (5, false), (6, false), (7, false), (8, false), (9, true), (10, false)] [] rfl (by kernel_rfl) (by kernel_rfl) hF (fun _ _ d _ _ h => by cases d <;> exact h) (fun C hC => ?_)
      clear hF
      refine Chain.move rfl rfl rfl rfl rfl rfl ?_
      refine Chain.move rfl rfl rfl rfl rfl rfl ?_
      refine Chain.step (v := ?_) rfl rfl rfl rfl ?_ ?_
      rotate_left
      · intro a hF w' hw
        have s267 := hF.slot 267 _ rfl
        have s268 := hF.slot 268 _ rfl
        clear hw
        clear hF
        go_simp <;> with_reducible rfl
      refine Chain.step (v := ?_) rfl rfl rfl rfl ?_ ?_
      rotate_left
      · intro a hF w' hw
        have s269 := hF.slot 269 _ rfl
        clear hw
        clear hF
        go_simp <;> with_reducible rfl
      refine Chain.step (v := ?_) rfl rfl rfl rfl ?_ ?_
      rotate_left
      · intro a hF w' hw
        have s270 := hF.slot 270 _ rfl
        cases hw rfl
        clear hF
        go_simp <;> with_reducible rfl
      refine Chain.move rfl rfl rfl rfl rfl rfl ?_
      refine Chain.move rfl rfl rfl rfl rfl rfl ?_
      refine Chain.step (v := ?_) rfl rfl rfl rfl ?_ ?_
      rotate_left
      · intro a hF w' hw
        have s272 := hF.slot 272 _ rfl
        have s273 := hF.slot 273 _ rfl
        clear hw
        clear hF
        go_simp <;> with_reducible rfl
      refine Chain.step (v := ?_) rfl rfl rfl rfl ?_ ?_
      rotate_left
      · intro a hF w' hw
        have s274 := hF.slot 274 _ rfl
        clear hw
        clear hF
        go_simp <;> with_reducible rfl
      refine Chain.step (v := ?_) rfl rfl rfl rfl ?_ ?_
      rotate_left
      · intro a hF w' hw
        have s275 := hF.slot 275 _ rfl
        cases hw rfl
        clear hF
        go_simp <;> with_reducible rfl
      refine Chain.step (v := ?_) rfl rfl rfl rfl ?_ ?_
      rotate_left
      · intro a hF w' hw
        have s271 := hF.slot 271 _ rfl
        have s276 := hF.slot 276 _ rfl
        clear hw
        clear hF
        go_simp <;> with_reducible rfl
      refine hC _ (fun a hF => ?_)
      clear hC C
      refine any_end (by kernel_rfl) ?_
      replace hF := hF.sub (e' := [(7, _), (8, _), (16, _), (17, _), (18, _), (277, _)]) ⟨rfl, rfl, rfl, rfl, rfl, rfl, trivial⟩
      refine hK _ _ ?_
      clear hK K
      refine cond_yes hF rfl ?_
      refine region_seq (l := [0, 1, 2, 3, 4, 5, 6, 7]) (by kernel_rfl) ?_
      refine seq_chain [(0, true), (1, true), (2, true), (3, true), (4, true), (5, true), (6, true), (7, true)] [] rfl hF (fun C hC => ?_)
      clear hF
      refine Chain.move rfl rfl rfl rfl rfl rfl ?_
      refine Chain.move rfl rfl rfl rfl rfl rfl ?_
      refine Chain.move rfl rfl rfl rfl rfl rfl ?_
      refine Chain.step (v := ?_) rfl rfl rfl rfl ?_ ?_
      rotate_left
      · intro a hF w' hw
        have s279 := hF.slot 279 _ rfl
        have s280 := hF.slot 280 _ rfl
        cases hw rfl
        clear hF
        go_simp <;> with_reducible rfl
      refine Chain.step (v := ?_) rfl rfl rfl rfl ?_ ?_
      rotate_left
      · intro a hF w' hw
        have s281 := hF.slot 281 _ rfl
        cases hw rfl
        clear hF
        go_simp <;> with_reducible rfl
      refine Chain.step (v := ?_) rfl rfl rfl rfl ?_ ?_
      rotate_left
      · intro a hF w' hw
        have s282 := hF.slot 282 _ rfl
        cases hw rfl
        clear hF
        go_simp <;> with_reducible rfl
      refine Chain.step (v := ?_) rfl rfl rfl rfl ?_ ?_
      rotate_left
      · intro a hF w' hw
        have s278 := hF.slot 278 _ rfl
        have s283 := hF.slot 283 _ rfl
        cases hw rfl
        clear hF
        go_simp <;> with_reducible rfl
      refine Chain.assign rfl rfl rfl rfl rfl rfl ?_
      refine hC _ (fun a hF => ?_)
      clear hC C
      refine seq_end ?_
      replace hF := hF.sub (e' := [(7, _), (8, _), (16, _), (17, _), (18, _)]) ⟨rfl, rfl, rfl, rfl, rfl, trivial⟩
      exact hKF _ _ ⟨_, hF, HM2.out, below_d HB.out⟩
    · have hb2 : (X[k].gate == X[i].gate) = false := by simp [h1]
      have HM2 := Lib.hid (HMN.out.2 h1)
      clear h1
      refine region_any (by kernel_rfl) ?_
      refine any_chain (fuel := 0) [(0, false), (1, false), (2, false), (3, false), (4, true), (5, false), (6, false), (7, false), (8, false), (9, true), (10, false)] [] rfl (by kernel_rfl) (by kernel_rfl) hF (fun _ _ d _ _ h => by cases d <;> exact h) (fun C hC => ?_)
      clear hF
      refine Chain.move rfl rfl rfl rfl rfl rfl ?_
      refine Chain.move rfl rfl rfl rfl rfl rfl ?_
      refine Chain.step (v := ?_) rfl rfl rfl rfl ?_ ?_
      rotate_left
      · intro a hF w' hw
        have s267 := hF.slot 267 _ rfl
        have s268 := hF.slot 268 _ rfl
        clear hw
        clear hF
        go_simp <;> with_reducible rfl
      refine Chain.step (v := ?_) rfl rfl rfl rfl ?_ ?_
      rotate_left
      · intro a hF w' hw
        have s269 := hF.slot 269 _ rfl
        clear hw
        clear hF
        go_simp <;> with_reducible rfl
      refine Chain.step (v := ?_) rfl rfl rfl rfl ?_ ?_
      rotate_left
      · intro a hF w' hw
        have s270 := hF.slot 270 _ rfl
        cases hw rfl
        clear hF
        go_simp <;> with_reducible rfl
      refine Chain.move rfl rfl rfl rfl rfl rfl ?_
      refine Chain.move rfl rfl rfl rfl rfl rfl ?_
      refine Chain.step (v := ?_) rfl rfl rfl rfl ?_ ?_
      rotate_left
      · intro a hF w' hw
        have s272 := hF.slot 272 _ rfl
        have s273 := hF.slot 273 _ rfl
        clear hw
        clear hF
        go_simp <;> with_reducible rfl
      refine Chain.step (v := ?_) rfl rfl rfl rfl ?_ ?_
      rotate_left
      · intro a hF w' hw
        have s274 := hF.slot 274 _ rfl
        clear hw
        clear hF
        go_simp <;> with_reducible rfl
      refine Chain.step (v := ?_) rfl rfl rfl rfl ?_ ?_
      rotate_left
      · intro a hF w' hw
        have s275 := hF.slot 275 _ rfl
        cases hw rfl
        clear hF
        go_simp <;> with_reducible rfl
      refine Chain.step (v := ?_) rfl rfl rfl rfl ?_ ?_
      rotate_left
      · intro a hF w' hw
        have s271 := hF.slot 271 _ rfl
        have s276 := hF.slot 276 _ rfl
        clear hw
        clear hF
        go_simp <;> with_reducible rfl
      refine hC _ (fun a hF => ?_)
      clear hC C
      refine any_end (by kernel_rfl) ?_
      replace hF := hF.sub (e' := [(7, _), (8, _), (16, _), (17, _), (18, _), (277, _)]) ⟨rfl, rfl, rfl, rfl, rfl, rfl, trivial⟩
      refine hK _ _ ?_
      clear hK K
      refine cond_no hF rfl ?_
      refine wp_skip ?_
      exact hKF _ _ ⟨_, hF.sub ⟨rfl, rfl, rfl, rfl, rfl, trivial⟩, HM2.out, below_d HB.out⟩
  clear hF
  rintro a wx ⟨most, hF, HM, HB⟩
  have HOx := Lib.hid (HO.out.down HB.out)
  clear HO
  have HMI := Lib.hid (most_iff hlt HM.out)
  obtain ⟨d0, d1⟩ := HXm.out i hlt wx HOx.out.below
  have HXg : Hid (∀ w' : World, Below w1.heap.size w1 w' → w'.cell? ⟨b1, o1 + i * 6, none⟩ = some (.int .i64 X[i].gate)) := fun w' hb => (HXm.out i hlt w' hb).1
  clear HXm HM HB
  have HNO : (∀ b, ¬ P4 X i b) → Hid (BlO w1 (4 * X.length + 4000 * (i + 1)) (fun b => (∃ j, j < X.length ∧ PA1 G st X j b) ∨ ∃ j, j < i + 1 ∧ P4 X j b) v8 wx) := fun h => HOx.out.iff (by omega) fun b => by
    rw [← HNX.out b]
    exact ⟨Or.inl, fun h2 => h2.elim id fun h2 => absurd h2 (h b)⟩
  refine seq_cut (fun a' w' => FrF 333 [] [(7, .slice (some ⟨b1, o1, none⟩) X.length xc), (8, v8), (16, .int .i64 i), (17, .int .i64 most)] a' ∧ wx = w' ∧ most ≤ 4000 ∧ X[i].number = most ∧ seenB (gateL (X.take i) X[i].gate) X[i].number = false) (fun KD hKD => ?_) ?_
  · refine wp_seq_k (fun K hK => ?_)
    by_cases h1 : 4000 < most
    · have hb1 : decide (4000 < most) = true := decide_eq_true h1
      have HN := HNO fun b h => by
        have h2 := (HP4.out b).mp h
        have h3 := HMI.out.mp h2.2.1
        have h4 := h2.2.2.1
        omega
      clear HNO h1
      refine region_seq (l := [0, 1, 2, 3, 4, 5, 6, 7, 8, 9, 10, 11, 12, 13, 14, 15, 16, 17, 18, 19, 20, 21, 22]) (by kernel_rfl) ?_
      refine seq_chain [(0, true), (1, true), (2, true), (3, true), (4, true), (5, true), (6, true), (7, true), (8, true), (9, true), (10, true), (11, true), (12, true), (13, true), (14, true), (15, true), (16, true), (17, true), (18, true), (19, true), (20, true), (21, true), (22, true)] [] rfl hF (fun C hC => ?_)
      clear hF
      refine Chain.move rfl rfl rfl rfl rfl rfl ?_
      refine Chain.step (v := ?_) rfl rfl rfl rfl ?_ ?_
      rotate_left
      · intro a hF w' hw
        have s285 := hF.slot 285 _ rfl
        cases hw rfl
        clear hF
        go_simp <;> with_reducible rfl
      refine Chain.move rfl rfl rfl rfl rfl rfl ?_
      refine Chain.skip rfl rfl rfl rfl ?_
      refine Chain.skip rfl rfl rfl rfl ?_
      refine Chain.skip rfl rfl rfl rfl ?_
      refine Chain.skip rfl rfl rfl rfl ?_
      refine Chain.skip rfl rfl rfl rfl ?_
      refine Chain.skip rfl rfl rfl rfl ?_
      refine Chain.skip rfl rfl rfl rfl ?_
      refine Chain.step (v := ?_) rfl rfl rfl rfl ?_ ?_
      rotate_left
      · intro a hF w' hw
        have s287 := hF.slot 287 _ rfl
        have s294 := hF.slot 294 _ rfl
        cases hw rfl
        clear hF
        go_simp <;> with_reducible rfl
      refine Chain.move rfl rfl rfl rfl rfl rfl ?_
      refine Chain.skip rfl rfl rfl rfl ?_
      refine Chain.skip rfl rfl rfl rfl ?_
      refine Chain.skip rfl rfl rfl rfl ?_
      refine Chain.skip rfl rfl rfl rfl ?_
      refine Chain.skip rfl rfl rfl rfl ?_
      refine Chain.skip rfl rfl rfl rfl ?_
      refine Chain.skip rfl rfl rfl rfl ?_
      refine Chain.skip rfl rfl rfl rfl ?_
      refine Chain.skip rfl rfl rfl rfl ?_
      refine Chain.skip rfl rfl rfl rfl ?_
      refine Chain.step (v := ?_) rfl rfl rfl rfl ?_ ?_
      rotate_left
      · intro a hF w' hw
        have s296 := hF.slot 296 _ rfl
        have s306 := hF.slot 306 _ rfl
        cases hw rfl
        clear hF
        go_simp <;> with_reducible rfl
      refine hC _ (fun a hF => ?_)
      clear hC C
      refine seq_end ?_
      replace hF := hF.sub (e' := [(7, _), (8, _), (16, _), (17, _), (307, _)]) ⟨rfl, rfl, rfl, rfl, rfl, trivial⟩
      refine hK _ _ ?_
      clear hK K
      refine cond_yes hF rfl ?_
      refine wp_exit ?_
      exact hKC _ _ ⟨_, hF.sub ⟨rfl, rfl, rfl, trivial⟩, HN⟩
    have hb1 : decide (4000 < most) = false := decide_eq_false h1
    by_cases h2 : X[i].number = most
    rotate_left
    · have hb2 : (X[i].number != most) = true := by simp [h2]
      have HN := HNO fun b h => h2 (HMI.out.mp ((HP4.out b).mp h).2.1)
      clear HNO h1 h2
      refine region_seq (l := [0, 1, 2, 3, 4, 5, 6, 7, 8, 9, 10, 11, 12, 13, 14, 15, 16, 17, 18, 19, 20, 21, 22]) (by kernel_rfl) ?_
      refine seq_chain [(0, true), (1, true), (2, true), (3, true), (4, true), (5, true), (6, true), (7, true), (8, true), (9, true), (10, true), (11, true), (12, true), (13, true), (14, true), (15, true), (16, true), (17, true), (18, true), (19, true), (20, true), (21, true), (22, true)] [] rfl hF (fun C hC => ?_)
      clear hF
      refine Chain.move rfl rfl rfl rfl rfl rfl ?_
      refine Chain.step (v := ?_) rfl rfl rfl rfl ?_ ?_
      rotate_left
      · intro a hF w' hw
        have s285 := hF.slot 285 _ rfl
        cases hw rfl
        clear hF
        go_simp <;> with_reducible rfl
      refine Chain.move rfl rfl rfl rfl rfl rfl ?_
      refine Chain.move rfl rfl rfl rfl rfl rfl ?_
      refine Chain.move rfl rfl rfl rfl rfl rfl ?_
      refine Chain.step (v := ?_) rfl rfl rfl rfl ?_ ?_
      rotate_left
      · intro a hF w' hw
        have s288 := hF.slot 288 _ rfl
        have s289 := hF.slot 289 _ rfl
        cases hw rfl
        clear hF
        go_simp <;> with_reducible rfl
      refine Chain.step (v := ?_) rfl rfl rfl rfl ?_ ?_
      rotate_left
      · intro a hF w' hw
        have s290 := hF.slot 290 _ rfl
        cases hw rfl
        clear hF
        go_simp <;> with_reducible rfl
      refine Chain.step (v := ?_) rfl rfl rfl rfl ?_ ?_
      rotate_left
      · intro a hF w' hw
        have s291 := hF.slot 291 _ rfl
        cases hw rfl
        clear hF
        go_simp <;> with_reducible rfl
      refine Chain.move rfl rfl rfl rfl rfl rfl ?_
      refine Chain.step (v := ?_) rfl rfl rfl rfl ?_ ?_
      rotate_left
      · intro a hF w' hw
        have s292 := hF.slot 292 _ rfl
        have s293 := hF.slot 293 _ rfl
        cases hw rfl
        clear hF
        go_simp <;> with_reducible rfl
      refine Chain.step (v := ?_) rfl rfl rfl rfl ?_ ?_
      rotate_left
      · intro a hF w' hw
        have s287 := hF.slot 287 _ rfl
        have s294 := hF.slot 294 _ rfl
        cases hw rfl
        clear hF
        go_simp <;> with_reducible rfl
      refine Chain.move rfl rfl rfl rfl rfl rfl ?_
      refine Chain.skip rfl rfl rfl rfl ?_
      refine Chain.skip rfl rfl rfl rfl ?_
      refine Chain.skip rfl rfl rfl rfl ?_
      refine Chain.skip rfl rfl rfl rfl ?_
      refine Chain.skip rfl rfl rfl rfl ?_
      refine Chain.skip rfl rfl rfl rfl ?_
      refine Chain.skip rfl rfl rfl rfl ?_
      refine Chain.skip rfl rfl rfl rfl ?_
      refine Chain.skip rfl rfl rfl rfl ?_
      refine Chain.skip rfl rfl rfl rfl ?_
      refine Chain.step (v := ?_) rfl rfl rfl rfl ?_ ?_
      rotate_left
      · intro a hF w' hw
        have s296 := hF.slot 296 _ rfl
        have s306 := hF.slot 306 _ rfl
        cases hw rfl
        clear hF
        go_simp <;> with_reducible rfl
      refine hC _ (fun a hF => ?_)
      clear hC C
      refine seq_end ?_
      replace hF := hF.sub (e' := [(7, _), (8, _), (16, _), (17, _), (307, _)]) ⟨rfl, rfl, rfl, rfl, rfl, trivial⟩
      refine hK _ _ ?_
      clear hK K
      refine cond_yes hF rfl ?_
      refine wp_exit ?_
      exact hKC _ _ ⟨_, hF.sub ⟨rfl, rfl, rfl, trivial⟩, HN⟩
    have hb2 : (X[i].number != most) = false := by simp [h2]
    have HH2 := Lib.hid h2
    have HH1 : Hid (most ≤ 4000) := Int.not_lt.mp h1
    have HFI := Lib.hid (HFK.out X[i].gate most wx HOx.out.below)
    have HFE : Hid (findS X X[i].gate most = i ↔ seenB (gateL (X.take i) X[i].gate) X[i].number = false) := by
      have := HFS.out
      rw [h2] at this
      rw [h2]
      exact this
    clear h1 h2
    generalize findS X X[i].gate most = f at *
    by_cases h3 : f = i
    · have hb3 : (f != (i : Int)) = false := by simp [h3]
      have HFE := Lib.hid (HFE.out.mp h3)
      clear h3 HNO
      refine region_seq (l := [0, 1, 2, 3, 4, 5, 6, 7, 8, 9, 10, 11, 12, 13, 14, 15, 16, 17, 18, 19, 20, 21, 22]) (by kernel_rfl) ?_
      refine seq_chain [(0, true), (1, true), (2, true), (3, true), (4, true), (5, true), (6, true), (7, true), (8, true), (9, true), (10, true), (11, true), (12, true), (13, true), (14, true), (15, true), (16, true), (17, true), (18, true)] [19, 20, 21, 22] rfl hF (fun C hC => ?_)
      clear hF
      refine Chain.move rfl rfl rfl rfl rfl rfl ?_
      refine Chain.step (v := ?_) rfl rfl rfl rfl ?_ ?_
      rotate_left
      · intro a hF w' hw
        have s285 := hF.slot 285 _ rfl
        cases hw rfl
        clear hF
        go_simp <;> with_reducible rfl
      refine Chain.move rfl rfl rfl rfl rfl rfl ?_
      refine Chain.move rfl rfl rfl rfl rfl rfl ?_
      refine Chain.move rfl rfl rfl rfl rfl rfl ?_
      refine Chain.step (v := ?_) rfl rfl rfl rfl ?_ ?_
      rotate_left
      · intro a hF w' hw
        have s288 := hF.slot 288 _ rfl
        have s289 := hF.slot 289 _ rfl
        cases hw rfl
        clear hF
        go_simp <;> with_reducible rfl
      refine Chain.step (v := ?_) rfl rfl rfl rfl ?_ ?_
      rotate_left
      · intro a hF w' hw
        have s290 := hF.slot 290 _ rfl
        cases hw rfl
        clear hF
        go_simp <;> with_reducible rfl
      refine Chain.step (v := ?_) rfl rfl rfl rfl ?_ ?_
      rotate_left
      · intro a hF w' hw
        have s291 := hF.slot 291 _ rfl
        cases hw rfl
        clear hF
        go_simp <;> with_reducible rfl
      refine Chain.move rfl rfl rfl rfl rfl rfl ?_
      refine Chain.step (v := ?_) rfl rfl rfl rfl ?_ ?_
      rotate_left
      · intro a hF w' hw
        have s292 := hF.slot 292 _ rfl
        have s293 := hF.slot 293 _ rfl
        cases hw rfl
        clear hF
        go_simp <;> with_reducible rfl
      refine Chain.step (v := ?_) rfl rfl rfl rfl ?_ ?_
      rotate_left
      · intro a hF w' hw
        have s287 := hF.slot 287 _ rfl
        have s294 := hF.slot 294 _ rfl
        cases hw rfl
        clear hF
        go_simp <;> with_reducible rfl
      refine Chain.move rfl rfl rfl rfl rfl rfl ?_
      refine Chain.move rfl rfl rfl rfl rfl rfl ?_
      refine Chain.move rfl rfl rfl rfl rfl rfl ?_
      refine Chain.move rfl rfl rfl rfl rfl rfl ?_
      refine Chain.step (v := ?_) rfl rfl rfl rfl ?_ ?_
      rotate_left
      · intro a hF w' hw
        have s298 := hF.slot 298 _ rfl
        have s299 := hF.slot 299 _ rfl
        cases hw rfl
        clear hF
        go_simp <;> with_reducible rfl
      refine Chain.step (v := ?_) rfl rfl rfl rfl ?_ ?_
      rotate_left
      · intro a hF w' hw
        have s300 := hF.slot 300 _ rfl
        cases hw rfl
        clear hF
        go_simp <;> with_reducible rfl
      refine Chain.step (v := ?_) rfl rfl rfl rfl ?_ ?_
      rotate_left
      · intro a hF w' hw
        have s301 := hF.slot 301 _ rfl
        cases hw rfl
        clear hF
        go_simp <;> with_reducible rfl
      refine Chain.move rfl rfl rfl rfl rfl rfl ?_
      refine hC _ (fun a hF => ?_)
      clear hC C
      refine seq_one ?_
      refine op_call [_, _, _] rfl rfl hF rfl (by kernel_rfl) ⟨rfl, rfl, rfl, trivial⟩ (fun K hK => ?_)
      clear hF
      refine HFI.out.mono ?_
      rintro e w' ⟨rfl, rfl⟩
      refine hK _ _ (fun a hF => ?_)
      clear hK K
      refine seq_chain [(20, true), (21, true), (22, true)] [] rfl hF (fun C hC => ?_)
      clear hF
      refine Chain.move rfl rfl rfl rfl rfl rfl ?_
      refine Chain.step (v := ?_) rfl rfl rfl rfl ?_ ?_
      rotate_left
      · intro a hF w' hw
        have s304 := hF.slot 304 _ rfl
        have s305 := hF.slot 305 _ rfl
        cases hw rfl
        clear hF
        go_simp <;> with_reducible rfl
      refine Chain.step (v := ?_) rfl rfl rfl rfl ?_ ?_
      rotate_left
      · intro a hF w' hw
        have s296 := hF.slot 296 _ rfl
        have s306 := hF.slot 306 _ rfl
        cases hw rfl
        clear hF
        go_simp <;> with_reducible rfl
      refine hC _ (fun a hF => ?_)
      clear hC C
      refine seq_end ?_
      replace hF := hF.sub (e' := [(7, _), (8, _), (16, _), (17, _), (307, _)]) ⟨rfl, rfl, rfl, rfl, rfl, trivial⟩
      refine hK _ _ ?_
      clear hK K
      refine cond_no hF rfl ?_
      refine wp_skip ?_
      exact hKD _ _ ⟨hF.sub ⟨rfl, rfl, rfl, rfl, trivial⟩, rfl, HH1.out, HH2.out, HFE.out⟩
    · have hb3 : (f != (i : Int)) = true := by simp [h3]
      have HN := HNO fun b h => h3 (HFE.out.mpr ((HP4.out b).mp h).1)
      clear h3 HNO
      refine region_seq (l := [0, 1, 2, 3, 4, 5, 6, 7, 8, 9, 10, 11, 12, 13, 14, 15, 16, 17, 18, 19, 20, 21, 22]) (by kernel_rfl) ?_
      refine seq_chain [(0, true), (1, true), (2, true), (3, true), (4, true), (5, true), (6, true), (7, true), (8, true), (9, true), (10, true), (11, true), (12, true), (13, true), (14, true), (15, true), (16, true), (17, true), (18, true)] [19, 20, 21, 22] rfl hF (fun C hC => ?_)
      clear hF
      refine Chain.move rfl rfl rfl rfl rfl rfl ?_
      refine Chain.step (v := ?_) rfl rfl rfl rfl ?_ ?_
      rotate_left
      · intro a hF w' hw
        have s285 := hF.slot 285 _ rfl
        cases hw rfl
        clear hF
        go_simp <;> with_reducible rfl
      refine Chain.move rfl rfl rfl rfl rfl rfl ?_
      refine Chain.move rfl rfl rfl rfl rfl rfl ?_
      refine Chain.move rfl rfl rfl rfl rfl rfl ?_
      refine Chain.step (v := ?_) rfl rfl rfl rfl ?_ ?_
      rotate_left
      · intro a hF w' hw
        have s288 := hF.slot 288 _ rfl
        have s289 := hF.slot 289 _ rfl
        cases hw rfl
        clear hF
        go_simp <;> with_reducible rfl
      refine Chain.step (v := ?_) rfl rfl rfl rfl ?_ ?_
      rotate_left
      · intro a hF w' hw
        have s290 := hF.slot 290 _ rfl
        cases hw rfl
        clear hF
        go_simp <;> with_reducible rfl
      refine Chain.step (v := ?_) rfl rfl rfl rfl ?_ ?_
      rotate_left
      · intro a hF w' hw
        have s291 := hF.slot 291 _ rfl
        cases hw rfl
        clear hF
        go_simp <;> with_reducible rfl
      refine Chain.move rfl rfl rfl rfl rfl rfl ?_
      refine Chain.step (v := ?_) rfl rfl rfl rfl ?_ ?_
      rotate_left
      · intro a hF w' hw
        have s292 := hF.slot 292 _ rfl
        have s293 := hF.slot 293 _ rfl
        cases hw rfl
        clear hF
        go_simp <;> with_reducible rfl
      refine Chain.step (v := ?_) rfl rfl rfl rfl ?_ ?_
      rotate_left
      · intro a hF w' hw
        have s287 := hF.slot 287 _ rfl
        have s294 := hF.slot 294 _ rfl
        cases hw rfl
        clear hF
        go_simp <;> with_reducible rfl
      refine Chain.move rfl rfl rfl rfl rfl rfl ?_
      refine Chain.move rfl rfl rfl rfl rfl rfl ?_
      refine Chain.move rfl rfl rfl rfl rfl rfl ?_
      refine Chain.move rfl rfl rfl rfl rfl rfl ?_
      refine Chain.step (v := ?_) rfl rfl rfl rfl ?_ ?_
      rotate_left
      · intro a hF w' hw
        have s298 := hF.slot 298 _ rfl
        have s299 := hF.slot 299 _ rfl
        cases hw rfl
        clear hF
        go_simp <;> with_reducible rfl
      refine Chain.step (v := ?_) rfl rfl rfl rfl ?_ ?_
      rotate_left
      · intro a hF w' hw
        have s300 := hF.slot 300 _ rfl
        cases hw rfl
        clear hF
        go_simp <;> with_reducible rfl
      refine Chain.step (v := ?_) rfl rfl rfl rfl ?_ ?_
      rotate_left
      · intro a hF w' hw
        have s301 := hF.slot 301 _ rfl
        cases hw rfl
        clear hF
        go_simp <;> with_reducible rfl
      refine Chain.move rfl rfl rfl rfl rfl rfl ?_
      refine hC _ (fun a hF => ?_)
      clear hC C
      refine seq_one ?_
      refine op_call [_, _, _] rfl rfl hF rfl (by kernel_rfl) ⟨rfl, rfl, rfl, trivial⟩ (fun K hK => ?_)
      clear hF
      refine HFI.out.mono ?_
      rintro e w' ⟨rfl, rfl⟩
      refine hK _ _ (fun a hF => ?_)
      clear hK K
      refine seq_chain [(20, true), (21, true), (22, true)] [] rfl hF (fun C hC => ?_)
      clear hF
      refine Chain.move rfl rfl rfl rfl rfl rfl ?_
      refine Chain.step (v := ?_) rfl rfl rfl rfl ?_ ?_
      rotate_left
      · intro a hF w' hw
        have s304 := hF.slot 304 _ rfl
        have s305 := hF.slot 305 _ rfl
        cases hw rfl
        clear hF
        go_simp <;> with_reducible rfl
      refine Chain.step (v := ?_) rfl rfl rfl rfl ?_ ?_
      rotate_left
      · intro a hF w' hw
        have s296 := hF.slot 296 _ rfl
        have s306 := hF.slot 306 _ rfl
        cases hw rfl
        clear hF
        go_simp <;> with_reducible rfl
      refine hC _ (fun a hF => ?_)
      clear hC C
      refine seq_end ?_
      replace hF := hF.sub (e' := [(7, _), (8, _), (16, _), (17, _), (307, _)]) ⟨rfl, rfl, rfl, rfl, rfl, trivial⟩
      refine hK _ _ ?_
      clear hK K
      refine cond_yes hF rfl ?_
      refine wp_exit ?_
      exact hKC _ _ ⟨_, hF.sub ⟨rfl, rfl, rfl, trivial⟩, HN⟩
  clear hF HNO
  rintro a w' ⟨hF, rfl, hm4, hmn2, hseen⟩
  have HP5 : Hid (∀ b, P4 X i b ↔ ∃ n : Int, 1 ≤ n ∧ n < most ∧ seenB (gateL X X[i].gate) n = false ∧ b = gapB X[i].gate n most) := fun b => by
    rw [HP4.out b]
    unfold RefGap
    rw [← hmn2]
    exact ⟨fun h => h.2.2.2, fun h => ⟨hseen, HMI.out.mpr hmn2, by omega, h⟩⟩
  clear hmn2 hseen HMI HFS HP4
  generalize X[i].gate = g at *
  refine wp_seq_k (fun K hK => ?_)
  refine region_seq (l := [0]) (by kernel_rfl) ?_
  refine seq_chain [(0, true)] [] rfl hF (fun C hC => ?_)
  clear hF
  refine Chain.assign rfl rfl rfl rfl rfl rfl ?_
  refine hC _ (fun a hF => ?_)
  clear hC C
  refine seq_end ?_
  replace hF := hF.sub (e' := [(7, _), (8, _), (16, _), (17, _), (19, _)]) ⟨rfl, rfl, rfl, rfl, rfl, trivial⟩
  refine hK _ _ ?_
  clear hK K
  refine wp_block ?_
  refine loop_fr (fun n a' w' => ∃ (k : Nat) (v8 : Value), k + n = 4001 ∧ 1 ≤ k ∧ ((k : Int) ≤ most ∨ k = 1) ∧ FrF 333 [] [(7, .slice (some ⟨b1, o1, none⟩) X.length xc), (8, v8), (16, .int .i64 i), (17, .int .i64 most), (19, .int .i64 k)] a' ∧ Hid (BlO w1 (4 * X.length + 4000 * i + k) (fun b => ((∃ j, j < X.length ∧ PA1 G st X j b) ∨ ∃ j, j < i ∧ P4 X j b) ∨ ∃ n : Int, 1 ≤ n ∧ n < k ∧ seenB (gateL X g) n = false ∧ b = gapB g n most) v8 w')) 4000 ⟨1, _, by omega, by omega, Or.inr rfl, hF, HOx.out.iff (by omega) fun b => ⟨Or.inl, fun h => h.elim id fun ⟨n, h1, h2, _⟩ => by omega⟩⟩ ?_
  clear hF HOx d0 d1
  rintro rk a wx ⟨k, v8, hkk, hk1, hkm, hF, HO⟩ KE hKE
  have hki : (k : Int) ≤ 4001 := by omega
  refine wp_seq_k (fun K hK => ?_)
  refine wp_seq_k (fun K hK => ?_)
  by_cases hlt2 : (k : Int) < most
  rotate_left
  · have HN : Hid (BlO w1 (4 * X.length + 4000 * (i + 1)) (fun b => (∃ j, j < X.length ∧ PA1 G st X j b) ∨ ∃ j, j < i + 1 ∧ P4 X j b) v8 wx) := HO.out.iff (by omega) fun b => by
      rw [← HNX.out b, HP5.out b]
      refine ⟨fun h => h.imp id fun ⟨n, h1, h2, h3⟩ => ⟨n, h1, by omega, h3⟩, fun h => h.imp id fun ⟨n, h1, h2, h3⟩ => ⟨n, h1, by omega, h3⟩⟩
    refine region_seq (l := [0, 1, 2]) (by kernel_rfl) ?_
    refine seq_chain [(0, true), (1, true), (2, true)] [] rfl hF (fun C hC => ?_)
    clear hF
    refine Chain.move rfl rfl rfl rfl rfl rfl ?_
    refine Chain.move rfl rfl rfl rfl rfl rfl ?_
    refine Chain.step (v := ?_) rfl rfl rfl rfl ?_ ?_
    rotate_left
    · intro a hF w' hw
      have s308 := hF.slot 308 _ rfl
      have s309 := hF.slot 309 _ rfl
      cases hw rfl
      clear hF
      go_simp <;> with_reducible rfl
    refine hC _ (fun a hF => ?_)
    clear hC C
    refine seq_end ?_
    replace hF := hF.sub (e' := [(7, _), (8, _), (16, _), (17, _), (19, _), (310, _)]) ⟨rfl, rfl, rfl, rfl, rfl, rfl, trivial⟩
    refine hK _ _ ?_
    clear hK K
    refine cond_no hF rfl ?_
    refine wp_exit ?_
    exact hKC _ _ ⟨_, hF.sub ⟨rfl, rfl, rfl, trivial⟩, HN⟩
  refine region_seq (l := [0, 1, 2]) (by kernel_rfl) ?_
  refine seq_chain [(0, true), (1, true), (2, true)] [] rfl hF (fun C hC => ?_)
  clear hF
  refine Chain.move rfl rfl rfl rfl rfl rfl ?_
  refine Chain.move rfl rfl rfl rfl rfl rfl ?_
  refine Chain.step (v := ?_) rfl rfl rfl rfl ?_ ?_
  rotate_left
  · intro a hF w' hw
    have s308 := hF.slot 308 _ rfl
    have s309 := hF.slot 309 _ rfl
    cases hw rfl
    clear hF
    go_simp <;> with_reducible rfl
  refine hC _ (fun a hF => ?_)
  clear hC C
  refine seq_end ?_
  replace hF := hF.sub (e' := [(7, _), (8, _), (16, _), (17, _), (19, _), (310, _)]) ⟨rfl, rfl, rfl, rfl, rfl, rfl, trivial⟩
  refine hK _ _ ?_
  clear hK K
  refine cond_yes hF rfl ?_
  refine wp_skip ?_
  refine hK _ _ ?_
  clear hK K
  replace hF := hF.sub (e' := [(7, _), (8, _), (16, _), (17, _), (19, _)]) ⟨rfl, rfl, rfl, rfl, rfl, trivial⟩
  clear hKC
  refine seq_cut (fun a' w' => ∃ v8, FrF 333 [] [(7, .slice (some ⟨b1, o1, none⟩) X.length xc), (8, v8), (16, .int .i64 i), (17, .int .i64 most), (19, .int .i64 k)] a' ∧ Hid (BlO w1 (4 * X.length + 4000 * i + (k + 1)) (fun b => ((∃ j, j < X.length ∧ PA1 G st X j b) ∨ ∃ j, j < i ∧ P4 X j b) ∨ ∃ n : Int, 1 ≤ n ∧ n < (k + 1 : Nat) ∧ seenB (gateL X g) n = false ∧ b = gapB g n most) v8 w')) (fun KF hKF => ?_) ?_
  rotate_left
  · clear hF HO
    rintro a w' ⟨v8, hF, HO⟩
    have hws : IntKind.i64.wrap ((k : Int) + 1) = ((k + 1 : Nat) : Int) := wrap_succ (by omega)
    refine region_seq (l := [0, 1, 2]) (by kernel_rfl) ?_
    refine seq_chain [(0, true), (1, true), (2, true)] [] rfl hF (fun C hC => ?_)
    clear hF
    refine Chain.move rfl rfl rfl rfl rfl rfl ?_
    refine Chain.step (v := ?_) rfl rfl rfl rfl ?_ ?_
    rotate_left
    · intro a hF w' hw
      have s311 := hF.slot 311 _ rfl
      cases hw rfl
      clear hF
      go_simp <;> with_reducible rfl
    refine Chain.assign rfl rfl rfl rfl rfl rfl ?_
    refine hC _ (fun a hF => ?_)
    clear hC C
    refine seq_end ?_
    replace hF := hF.sub (e' := [(7, _), (8, _), (16, _), (17, _), (19, _)]) ⟨rfl, rfl, rfl, rfl, rfl, trivial⟩
    exact hKE (4001 - (k + 1)) _ _ (by omega) ⟨k + 1, _, by omega, by omega, Or.inl (by omega), hF, HO⟩
  clear hKE hkk
  refine wp_block ?_
  refine wp_seq_k (fun K hK => ?_)
  have c0 := HXg.out wx HO.out.below
  have HNG := Lib.hid (find_neg (X := X) (g := g) (nu := (k : Int)))
  have HFI := Lib.hid (HFK.out g (k : Int) wx HO.out.below)
  generalize findS X g (k : Int) = f at *
  by_cases hf : f < 0
  · have HS := Lib.hid (HNG.out.mp hf)
    refine region_seq (l := [0, 1, 2, 3, 4, 5, 6, 7, 8]) (by kernel_rfl) ?_
    refine seq_chain [(0, true), (1, true), (2, true), (3, true), (4, true), (5, true), (6, true)] [7, 8] rfl hF (fun C hC => ?_)
    clear hF
    refine Chain.move rfl rfl rfl rfl rfl rfl ?_
    refine Chain.move rfl rfl rfl rfl rfl rfl ?_
    refine Chain.move rfl rfl rfl rfl rfl rfl ?_
    refine Chain.step (v := ?_) rfl rfl rfl rfl ?_ ?_
    rotate_left
    · intro a hF w' hw
      have s314 := hF.slot 314 _ rfl
      have s315 := hF.slot 315 _ rfl
      cases hw rfl
      clear hF
      go_simp <;> with_reducible rfl
    refine Chain.step (v := ?_) rfl rfl rfl rfl ?_ ?_
    rotate_left
    · intro a hF w' hw
      have s316 := hF.slot 316 _ rfl
      cases hw rfl
      clear hF
      go_simp <;> with_reducible rfl
    refine Chain.step (v := ?_) rfl rfl rfl rfl ?_ ?_
    rotate_left
    · intro a hF w' hw
      have s317 := hF.slot 317 _ rfl
      cases hw rfl
      clear hF
      go_simp <;> with_reducible rfl
    refine Chain.move rfl rfl rfl rfl rfl rfl ?_
    refine hC _ (fun a hF => ?_)
    clear hC C
    refine seq_one ?_
    refine op_call [_, _, _] rfl rfl hF rfl (by kernel_rfl) ⟨rfl, rfl, rfl, trivial⟩ (fun K hK => ?_)
    clear hF
    refine HFI.out.mono ?_
    rintro e w' ⟨rfl, rfl⟩
    refine hK _ _ (fun a hF => ?_)
    clear hK K
    refine seq_chain [(8, true)] [] rfl hF (fun C hC => ?_)
    clear hF
    refine Chain.step (v := ?_) rfl rfl rfl rfl ?_ ?_
    rotate_left
    · intro a hF w' hw
      have s320 := hF.slot 320 _ rfl
      cases hw rfl
      clear hF
      go_simp <;> with_reducible rfl
    refine hC _ (fun a hF => ?_)
    clear hC C
    refine seq_end ?_
    replace hF := hF.sub (e' := [(7, _), (8, _), (16, _), (17, _), (19, _), (321, _)]) ⟨rfl, rfl, rfl, rfl, rfl, rfl, trivial⟩
    refine hK _ _ ?_
    clear hK K
    refine cond_yes hF rfl ?_
    refine region_seq (l := [0, 1, 2, 3, 4, 5, 6, 7, 8, 9, 10]) (by kernel_rfl) ?_
    refine seq_chain [(0, true), (1, true), (2, true), (3, true), (4, true), (5, true), (6, true), (7, true), (8, true)] [9, 10] rfl hF (fun C hC => ?_)
    clear hF
    refine Chain.move rfl rfl rfl rfl rfl rfl ?_
    refine Chain.move rfl rfl rfl rfl rfl rfl ?_
    refine Chain.move rfl rfl rfl rfl rfl rfl ?_
    refine Chain.step (v := ?_) rfl rfl rfl rfl ?_ ?_
    rotate_left
    · intro a hF w' hw
      have s323 := hF.slot 323 _ rfl
      have s324 := hF.slot 324 _ rfl
      cases hw rfl
      clear hF
      go_simp <;> with_reducible rfl
    refine Chain.step (v := ?_) rfl rfl rfl rfl ?_ ?_
    rotate_left
    · intro a hF w' hw
      have s325 := hF.slot 325 _ rfl
      cases hw rfl
      clear hF
      go_simp <;> with_reducible rfl
    refine Chain.step (v := ?_) rfl rfl rfl rfl ?_ ?_
    rotate_left
    · intro a hF w' hw
      have s326 := hF.slot 326 _ rfl
      cases hw rfl
      clear hF
      go_simp <;> with_reducible rfl
    refine Chain.move rfl rfl rfl rfl rfl rfl ?_
    refine Chain.move rfl rfl rfl rfl rfl rfl ?_
    refine Chain.step (v := ?_) rfl rfl rfl rfl ?_ ?_
    rotate_left
    · intro a hF w' hw
      have s327 := hF.slot 327 _ rfl
      have s328 := hF.slot 328 _ rfl
      have s329 := hF.slot 329 _ rfl
      cases hw rfl
      clear hF
      go_simp <;> with_reducible rfl
    refine hC _ (fun a hF => ?_)
    clear hC C
    refine seq_one ?_
    refine op_call [_, _] rfl rfl hF rfl (by kernel_rfl) ⟨rfl, rfl, trivial⟩ (fun K hK => ?_)
    clear hF
    refine (blo_add HO.out (by omega) (gapB g k most)).mono ?_
    rintro e w5 ⟨v5, rfl, hO, hfar⟩
    refine hK _ _ (fun a hF => ?_)
    clear hK K
    refine seq_chain [(10, true)] [] rfl hF (fun C hC => ?_)
    clear hF
    refine Chain.assign rfl rfl rfl rfl rfl rfl ?_
    refine hC _ (fun a hF => ?_)
    clear hC C
    refine seq_end ?_
    replace hF := hF.sub (e' := [(7, _), (8, _), (16, _), (17, _), (19, _)]) ⟨rfl, rfl, rfl, rfl, rfl, trivial⟩
    refine hKF _ _ ⟨_, hF, hO.iff (by omega) fun b => ?_⟩
    constructor
    · rintro (h | h | ⟨n, h1, h2, h3⟩)
      · exact Or.inr ⟨k, by omega, by omega, HS.out, h⟩
      · exact Or.inl h
      · exact Or.inr ⟨n, h1, by omega, h3⟩
    · rintro (h | ⟨n, h1, h2, h3, h4⟩)
      · exact Or.inr (Or.inl h)
      · by_cases e : n = k
        · subst e; exact Or.inl h4
        · exact Or.inr (Or.inr ⟨n, h1, by omega, h3, h4⟩)
  · have HS : Hid (¬ seenB (gateL X g) (k : Int) = false) := fun h => hf (HNG.out.mpr h)
    refine region_seq (l := [0, 1, 2, 3, 4, 5, 6, 7, 8]) (by kernel_rfl) ?_
    refine seq_chain [(0, true), (1, true), (2, true), (3, true), (4, true), (5, true), (6, true)] [7, 8] rfl hF (fun C hC => ?_)
    clear hF
    refine Chain.move rfl rfl rfl rfl rfl rfl ?_
    refine Chain.move rfl rfl rfl rfl rfl rfl ?_
    refine Chain.move rfl rfl rfl rfl rfl rfl ?_
    refine Chain.step (v := ?_) rfl rfl rfl rfl ?_ ?_
    rotate_left
    · intro a hF w' hw
      have s314 := hF.slot 314 _ rfl
      have s315 := hF.slot 315 _ rfl
      cases hw rfl
      clear hF
      go_simp <;> with_reducible rfl
    refine Chain.step (v := ?_) rfl rfl rfl rfl ?_ ?_
    rotate_left
    · intro a hF w' hw
      have s316 := hF.slot 316 _ rfl
      cases hw rfl
      clear hF
      go_simp <;> with_reducible rfl
    refine Chain.step (v := ?_) rfl rfl rfl rfl ?_ ?_
    rotate_left
    · intro a hF w' hw
      have s317 := hF.slot 317 _ rfl
      cases hw rfl
      clear hF
      go_simp <;> with_reducible rfl
    refine Chain.move rfl rfl rfl rfl rfl rfl ?_
    refine hC _ (fun a hF => ?_)
    clear hC C
    refine seq_one ?_
    refine op_call [_, _, _] rfl rfl hF rfl (by kernel_rfl) ⟨rfl, rfl, rfl, trivial⟩ (fun K hK => ?_)
    clear hF
    refine HFI.out.mono ?_
    rintro e w' ⟨rfl, rfl⟩
    refine hK _ _ (fun a hF => ?_)
    clear hK K
    refine seq_chain [(8, true)] [] rfl hF (fun C hC => ?_)
    clear hF
    refine Chain.step (v := ?_) rfl rfl rfl rfl ?_ ?_
    rotate_left
    · intro a hF w' hw
      have s320 := hF.slot 320 _ rfl
      cases hw rfl
      clear hF
      go_simp <;> with_reducible rfl
    refine hC _ (fun a hF => ?_)
    clear hC C
    refine seq_end ?_
    replace hF := hF.sub (e' := [(7, _), (8, _), (16, _), (17, _), (19, _), (321, _)]) ⟨rfl, rfl, rfl, rfl, rfl, rfl, trivial⟩
    refine hK _ _ ?_
    clear hK K
    refine cond_no hF rfl ?_
    refine wp_skip ?_
    refine hKF _ _ ⟨_, hF.sub ⟨rfl, rfl, rfl, rfl, rfl, trivial⟩, HO.out.iff (by omega) fun b => ?_⟩
    constructor
    · rintro (h | ⟨n, h1, h2, h3⟩)
      · exact Or.inl h
      · exact Or.inr ⟨n, h1, by omega, h3⟩
    · rintro (h | ⟨n, h1, h2, h3, h4⟩)
      · exact Or.inl h
      · by_cases e : n = k
        · subst e; exact absurd h3 HS.out
        · exact Or.inr ⟨n, h1, by omega, h3, h4⟩
end Go.Proofs.Ytpmoelkblngamaa
