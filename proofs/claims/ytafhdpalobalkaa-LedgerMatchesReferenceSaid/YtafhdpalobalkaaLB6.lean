/- ledger: Balances: the walk. -/
import Derived.Maps.RangeWalk
import Derived.Maps.AppendAt
import Derived.Test.YtafhdpalobalkaaLB5
namespace Go.Proofs.Ytafhdpalobalkaa
open Go.RowKit Go.IntWalk Go.Maps Go.ChangeMaps

theorem post_new (W : World) (x : PostT) : ∀ (j : Nat) (u : Value), (PostE.cells x)[j]? = some u → (W.alloc (.cells #[.int .i64 x.1.1, .string (bs x.1.2), .int .i64 x.2] 44)).cell? ((⟨W.heap.size, 0, none⟩ : Addr).add j) = some u := by
  intro j u hj
  rw [add_none]
  have hb := World.alloc_heap_new W (.cells #[.int .i64 x.1.1, .string (bs x.1.2), .int .i64 x.2] 44)
  rw [Nat.zero_add, cell_of_row _ _ _ _ _ _ hb]
  simpa [PostE] using hj

theorem acc_eq {a b : AccT} (h : accV a = accV b) : b = a := by
  unfold accV at h
  simp only [Value.agg.injEq, Array.mk.injEq, List.cons.injEq, Value.int.injEq, Value.string.injEq, true_and, and_true] at h
  exact (Prod.ext h.1 (bs_inj.mp h.2)).symm

set_option maxRecDepth 10000 in
set_option maxHeartbeats 1600000 in
theorem balances_any (S : Nat → Prop) (g : Nat) (Bs : List BookT) (w : World) (hL : LedAt w S g Bs) (hz : ∀ a, balS Bs a ≠ 0 → WfA a) :
    Calls Try.prog 15 #[.pointer (some ⟨g, 0, none⟩)] w fun e w' => ∃ la k c L, e = .returned (.slice la k c) ∧ Below w.heap.size w w' ∧ OwnRecs PostE w' w.heap.size 44 la k L ∧ IsBal L (balS Bs) ∧ k ≤ 2000 := by
  obtain ⟨la, n, cc, M, I, rs, hc⟩ := hL
  obtain ⟨D, hown, hD⟩ := hc.bal
  have HD := Lib.hid hD
  have HZ := Lib.hid hz
  have hMl := hown.lt
  have hsz := hown.size_le
  have hbl := hc.ok.len
  have g1 : w.cell? ⟨g, 1, none⟩ = some (.map (some M)) := by rw [cell_of_row _ _ _ _ _ _ hc.box]; rfl
  obtain ⟨i1, hj, hj0, hj1, hj2⟩ := info_parts info_post
  clear hc hD hz
  go_enter Try.func15, Try.ntmps15
  go_wp2_with (at_range; refine wpList_range_own _ rfl _ 52 rfl 39 3 lawA Try.underlying52 _ M _ _ rfl hown ?_; intro w0 hrg0 hg0 hs0)
  go_frame
  go_loopw [3] (fun v3 wr => ∃ (left : Lit → Bool) (cnt : Nat) (L : List PostT), wr.ranges Try.prog 39 (plainElem Try.prog 3) M w.heap.size (20 * Bs.length) D left cnt ∧ L.length + cnt ≤ Maps.size D ∧ Hid (Part D (balS Bs) left L) ∧ Hid (wr.ownsRow (w.heap.size + 1) 44 3 v3 L.length (flat PostE L)) ∧ Hid (Below w.heap.size w wr))
    (fun _ wr => wr.rangeLeft M w.heap.size)
  case atStart =>
    exact ⟨_, _, [], hrg0, by simp, Part.start D _, ⟨rfl, Or.inl ⟨rfl, rfl⟩⟩, (Below.refl _ _).grown hg0 (Nat.le_refl _) (fun j hj => by cases hj)⟩
  case round =>
    obtain ⟨left, cnt, L, hrg, hcl, HP, HO, HB⟩ := hrel
    go_wp2_with (at_next; refine wpList_next_ranges _ rfl _ rfl 39 lawA (plainElem Try.prog 3) accV (Value.int .i64) (fun key kl hkey => by obtain ⟨x, e, _⟩ := key_inv hkey; exact ⟨x, e⟩) (fun v y hv => by obtain ⟨c, e, _⟩ := plainElem_int_inv Try.underlying3 hv; exact ⟨c, e⟩) M w.heap.size _ _ _ _ rfl hrg ?_ ?_)
    · intro hc0 hl0
      go_wp2_with fail
      change Calls Try.prog 37 _ _ _
      refine (sort_posts u3 L.length (w.heap.size + 1) L wr (by omega) HO.out).mono ?_
      rintro e w' ⟨rfl, L', hp, hs, ho', hg'⟩
      go_wp2_with fail
      go_ret
      obtain ⟨la, c', rfl, ho⟩ := OwnRecs.of_row ho'
      refine ⟨la, _, c', L', rfl, HB.out.grown hg' HB.out.size (fun k hk => by have := (HO.out.lt k hk).1; omega), ⟨ho.1, fun hn => let ⟨g, e, hg, hr⟩ := ho.2 hn; ⟨g, e, by omega, hr⟩⟩, HP.out.isBal HD.out hl0 HZ.out hp hs, by omega⟩
    · intro k t c kl yd yp w1 cnt1 hkl hlx hR hat hrg1 hlt hg1 hs1 hen
      obtain ⟨b, hb, hwf, rfl⟩ := key_inv hkl
      have hb : b = (k, t) := acc_eq hb
      subst hb
      obtain ⟨c', hc', he, _⟩ := plainElem_int_inv Try.underlying3 hR
      have HF : Hid (balS Bs (k, t) = c) := by
        have h1 := HD.out.val (k, t) hwf
        rw [hat] at h1
        simp only [Prod.mk.injEq] at he
        rw [he.1] at h1
        simp at h1 hc'
        rw [hc']
        exact h1.symm
      have HWF := Lib.hid hwf
      have HLX := Lib.hid hlx
      unfold accV at hen ⊢
      dsimp only at hen ⊢
      have HO1 : Hid (w1.ownsRow (w.heap.size + 1) 44 3 u3 L.length (flat PostE L)) := row_of_heap HO.out (fun r hr => by have h := HO.out.lt r hr; exact hg1.block r h.2 (fun e => by have := Option.some.inj e; omega))
      have HB1 : Hid (Below w.heap.size w w1) := HB.out.grown hg1 HB.out.size (fun j hj => by cases hj; exact Nat.le_refl _)
      clear hat hkl hR hb hc' he hg1
      by_cases h0 : c = 0
      · have H0 := Lib.hid h0
        clear h0
        rw [H0.out] at hen ⊢
        go_wp2_with fail
        exact ⟨⟨_, cnt1, L, hrg1.alloc _, by omega, HP.out.skip HWF.out (HF.out.trans H0.out), HO1.out.alloc _, HB1.out.alloc HB1.out.size _⟩, by rw [(hrg1.alloc _).left_eq, hrg.left_eq]; exact hlt⟩
      · have H0 := Lib.hid h0
        go_upto_region 7 with fail
        have hnb := World.alloc_heap_new w1 (.cells #[.int .i64 k, .string (bs t)] 39)
        rw [hs1] at hnb
        have hrg2 := hrg1.alloc (.cells #[.int .i64 k, .string (bs t)] 39)
        have HO2 := Lib.hid (HO1.out.alloc (.cells #[.int .i64 k, .string (bs t)] 39))
        have HB2 := Lib.hid (HB1.out.alloc HB1.out.size (.cells #[.int .i64 k, .string (bs t)] 39))
        clear hen hrg1 HO1 HB1 hs1
        generalize w1.alloc (.cells #[.int .i64 k, .string (bs t)] 39) = w2 at *
        have x0 : w2.cell? ⟨wr.heap.size, 0, none⟩ = some (.int .i64 k) := by rw [cell_of_row _ _ _ _ _ _ hnb]; rfl
        have x1 : w2.cell? ⟨wr.heap.size, 1, none⟩ = some (.string (bs t)) := by rw [cell_of_row _ _ _ _ _ _ hnb]; rfl
        have hlen : L.length ≤ 2000 := by omega
        have hsz2 := cell_lt x0
        have hsz1 := HB.out.size
        clear hnb
        go_wp2_with (at_builtin; refine wpList_append_own _ rfl _ _ 32 rfl (w.heap.size + 1) 44 i1 _ 3 32 Try.underlying32 hj hj0 hj1 hj2 rfl (by decide) _ _ _ rfl (HO2.out.alloc _) ⟨w2.heap.size, 0, none⟩ 1 1 (PostE.cells ((k, t), c)) rfl rfl (post_new w2 ((k, t), c)) (PostE.one _) (by unfold maxLen; omega) (by omega) (by simp; omega) ?_; intro v' w4 hown' hgrow _; have HN := Lib.hid (And.intro hown' hgrow); clear hown' hgrow)
        have hrow : ∀ r, u3.ownBlock = some r → w.heap.size + 1 ≤ r := fun r hr => (HO2.out.lt r hr).1
        have hrg4 := (hrg2.alloc (.cells #[.int .i64 k, .string (bs t), .int .i64 c] 44)).kept HN.out.2 (fun e => by have := hrow M e.symm; omega) (fun e => by have := hrow w.heap.size e.symm; omega)
        have HP4 : Hid (Part D (balS Bs) (fun z => left z && !z.sameKey (keyL (k, t))) (L ++ [((k, t), c)])) := by
          have := HP.out.add HWF.out HLX.out (by rw [HF.out]; exact H0.out)
          rw [HF.out] at this
          exact this
        refine ⟨⟨_, cnt1, L ++ [((k, t), c)], hrg4, by simp; omega, HP4, ?_, (HB2.out.alloc (by omega) _).grown HN.out.2 (by simp; omega) (fun j hj => by have := hrow j hj; omega)⟩, by rw [hrg4.left_eq, hrg.left_eq]; exact hlt⟩
        show w4.ownsRow _ _ _ _ _ _
        rw [flat_append, flat_single, List.length_append, List.length_singleton]
        exact HN.out.1
end Go.Proofs.Ytafhdpalobalkaa
