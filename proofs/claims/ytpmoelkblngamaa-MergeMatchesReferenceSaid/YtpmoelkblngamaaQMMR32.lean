/- merge: Inside: the walk. -/
import Derived.Test.YtpmoelkblngamaaQMMR30

namespace Go.Proofs.Ytpmoelkblngamaa
open Go.RowKit Go.IntWalk Go.Maps Go.WideMaps

/-- The last scan of a group is an admission. -/
def InG (G : Int → List Scn) (k : Int) (b : Int) : Prop := b = k ∧ ∃ s, (G k).getLast? = some s ∧ s.kind = 1

theorem last_at {l : List Scn} {n : Nat} (h : l.length = n + 1) : ∃ s, l.getLast? = some s ∧ l[n]? = some s := by
  refine ⟨l[n]'(by omega), ?_, List.getElem?_eq_getElem _⟩
  have e : l.length - 1 = n := by omega
  rw [List.getLast?_eq_getElem?, e]
  exact List.getElem?_eq_getElem _

set_option maxRecDepth 100000 in
set_option maxHeartbeats 3200000 in
theorem inside_any (w : World) (v : Value) (scans : List Scn) (hs : Scs w v scans) (hsn : scans.length ≤ 1000) (hmn : (mergeS scans).length ≤ 1000) (hwf : ∀ s ∈ scans, WfS s) :
    Calls Try.prog 20 #[v] w fun e w' => ∃ u, e = .returned u ∧ IntsO w' w.heap.size u (insideS scans) ∧ Below w.heap.size w w' := by
  obtain ⟨sa, sc, rfl, hsr⟩ := hs
  have HS : Hid (Scs w (.slice sa scans.length sc) scans) := ⟨sa, sc, rfl, hsr⟩
  have HWF := Lib.hid (merge_wf hwf)
  clear hsr hwf
  go_enter Try.func20, Try.ntmps20
  go_wp2_with fail
  refine (merge_any _ 1 1 [scans] _ (logs_one HS.out) (by omega) (by simp [sumL]; omega)).mono ?_
  rintro e w1 ⟨la, lc, rfl, ho, _, hb⟩
  have hb1 : Below w.heap.size w w1 := (Joins.below_alloc1 w _).trans (hb.mono (by simp))
  rw [show [scans].flatten = scans from by simp] at ho ⊢
  have HX := Lib.hid ho
  have HB1 := Lib.hid hb1
  clear ho hb hb1
  obtain ⟨x, hx⟩ : ∃ x, x = mergeS scans := ⟨_, rfl⟩
  have HXE := Lib.hid hx
  rw [← hx] at HX HWF hmn ⊢
  clear hx
  go_wp2_with fail
  refine (ways_any la x.length lc x w1 HX.out.recs (by omega) HWF.out).mono ?_
  rintro e w2 ⟨M, E, rfl, hM1, hM2, hG, hb, hE⟩
  have HG := Lib.hid hG
  have HB2 : Hid (Below w.heap.size w w2) := HB1.out.trans (hb.mono HB1.out.size)
  have hs2 := hb.size
  have hMl : M < w2.heap.size := by obtain ⟨_, _, e⟩ := ownsMap_blk hG.map; exact lt_of_block e
  clear hG hb
  go_wp2_with (at_range; refine wpList_range_own _ rfl _ 72 rfl 3 22 lawI Try.underlying72 _ M _ _ rfl HG.out.map ?_; intro w0 hrg0 hg0 hs0)
  have HG0 : Hid (GrpAt w0 (w1.heap.size + 1) M E (wayL x)) := HG.out.cellsB hg0 (fun b e => by cases e)
  have HB0 : Hid (Below w.heap.size w w0) := HB2.out.grown hg0 HB2.out.size (fun b e => by cases e)
  clear hg0 HG HB2
  go_frame
  go_loopw [3, 4, 5] (fun v3 v4 v5 wr => ∃ (left : Lit → Bool) (cnt : Nat) (L : List Int), wr.ranges Try.prog 3 RV M w2.heap.size E.length (mapV E) left cnt ∧ Hid (Got E left (InG (wayL x)) L) ∧ Hid (L.Nodup) ∧ Hid (IntsO wr (w2.heap.size + 1) v3 L) ∧ Hid (Below w.heap.size w wr) ∧ Hid (GrpAt wr (w1.heap.size + 1) M E (wayL x)) ∧ w2.heap.size + 1 ≤ wr.heap.size ∧ L.length + cnt ≤ E.length)
    (fun _ _ _ wr => wr.rangeLeft M w2.heap.size)
  case atStart =>
    exact ⟨_, _, [], hrg0, got_start E _, List.nodup_nil, ⟨rfl, Or.inl ⟨rfl, rfl⟩⟩, HB0.out, HG0.out, by omega, by rw [mapV_size]; simp⟩
  case round =>
    clear HG0 HB0 hrg0
    obtain ⟨left, cnt, L, hrg, HP, HND, HO, HB, HG, hszr, hcl⟩ := hrel
    go_wp2_with (at_next; refine wpList_next_ranges _ rfl _ rfl 3 lawI RV (Value.int .i64) id (fun key kl hkey => by obtain ⟨x, e, _⟩ := Maps.keyOf_i64 Try.underlying3 hkey; exact ⟨x, e⟩) (fun v y hv => ⟨v, rfl⟩) M w2.heap.size _ _ _ _ rfl hrg ?_ ?_)
    · intro hc0 hl0
      have HST : Hid (L.mergeSort (fun x y => decide (x ≤ y)) = insideS scans) := by
        show _ = _
        rw [sort_set HND.out]
        refine inside_eq ⟨setK_strict KI _, fun k => ?_⟩
        rw [setK_mem, got_done HP.out hl0, ← HXE.out]
        unfold IsIn
        constructor
        · rintro ⟨j, _, rfl, hj⟩
          exact hj
        · rintro ⟨s, h1, h2⟩
          refine ⟨k, fun hn => ?_, rfl, s, h1, h2⟩
          rw [(HG.out.keys k).mp hn] at h1
          cases h1
      have hLn : L.length ≤ 1000000 := by omega
      clear hl0 hc0 hrg
      go_wp2_with fail
      refine (sort_own (w2.heap.size + 1) L.length u3 L wr hszr hLn HO.out).mono ?_
      rintro e w3 ⟨rfl, ho3, hg3⟩
      have HB3 : Hid (Below w.heap.size w w3) := HB.out.grown hg3 HB.out.size (fun k hk => by have := (HO.out.blk hk).1; have := HB1.out.size; omega)
      rw [← List.length_mergeSort (le := fun x y => decide (x ≤ y)), HST.out] at ho3
      have HO3 : Hid (IntsO w3 (w2.heap.size + 1) u3 (insideS scans)) := ho3
      clear ho3 hg3
      go_wp2_with fail
      go_ret
      refine ⟨_, rfl, ⟨HO3.out.1, ?_⟩, HB3.out⟩
      rcases HO3.out.2 with h | ⟨g, cap, cur, h1, h2, h3⟩
      · exact Or.inl h
      · exact Or.inr ⟨g, cap, cur, h1, by have := HB1.out.size; omega, h3⟩
    · intro k c kl yd yp w3 cnt1 hkl hlx hR hat hrg1 hlt hg1 hs1 hen
      obtain ⟨k', hk', rfl, hlk, _⟩ := came_grp hkl hR hat
      cases hk'
      have HG3 := Lib.hid (HG.out.iter hrg hg1)
      have HB3 : Hid (Below w.heap.size w w3) := HB.out.grown hg1 HB.out.size (fun b e => by cases e; have := HB1.out.size; omega)
      have HO3 : Hid (IntsO w3 (w2.heap.size + 1) u3 L) := row_of_heap HO.out fun r hr => hg1.block r (World.ownsRow.lt HO.out r hr).2 (fun e => by have := Option.some.inj e; have := (HO.out.blk hr).1; omega)
      obtain ⟨g, cc, hc, hp, hrow⟩ := HG3.out.came hlk
      have hc : c = .slice (some ⟨g, 0, none⟩) (wayL x k).length cc := hc
      subst hc
      have hlen : (wayL x k).length ≤ 1000 := Nat.le_trans (List.length_filter_le _ _) hmn
      obtain ⟨m, hm⟩ : ∃ m, (wayL x k).length = m + 1 := ⟨(wayL x k).length - 1, by omega⟩
      obtain ⟨s, hs1', hs2'⟩ := last_at hm
      obtain ⟨c0, c1, c2, c3, c4, c5⟩ := scn_cells hrow m (m * 6) rfl hs2'
      have HLS := Lib.hid hs1'
      have HLK := Lib.hid hlk
      have HHX := Lib.hid hlx
      obtain ⟨q, hq⟩ : ∃ q, (wayL x k).length = q := ⟨_, rfl⟩
      have hmq : (q : Int) - 1 = (m : Int) := by omega
      have hmq2 : m < q := by omega
      have hq2 : q ≤ 1000 := by omega
      rw [hq] at hen ⊢
      clear hat hkl hR hm hs1' hs2' hlk hlx hrow hp hq hlen HG HB HO c0 c1 c2 c3 c5
      by_cases h1 : s.kind = 1
      · have hb1 : (s.kind == 1) = true := by simp [h1]
        have HNW : Hid (Got E (fun z => left z && !z.sameKey (.int .i64 k)) (InG (wayL x)) (L ++ [k])) := got_next HP.out (by rw [HLK.out]; simp) fun b => by
          rw [List.mem_singleton]
          exact ⟨fun e => ⟨e, s, HLS.out, h1⟩, fun h => h.1⟩
        have HND2 : Hid ((L ++ [k]).Nodup) := by
          show List.Nodup _
          rw [List.nodup_append]
          refine ⟨HND.out, List.pairwise_singleton _ _, fun a ha b hb => ?_⟩
          rw [List.mem_singleton] at hb
          subst hb
          rintro rfl
          obtain ⟨j, hj, rfl, _⟩ := (HP.out a).mp ha
          have := hj.2
          rw [HHX.out] at this
          cases this
        clear h1 HP HND
        have HS1 := Lib.hid hs1
        clear hs1
        go_upto_region 6 with fail
        have HA4 := Lib.hid (Joins.below_alloc1 w3 (.cells #[.int .i64 k] 3))
        have HI4 := Lib.hid (HO3.out.below HA4.out)
        have HLL : Hid (L.length ≤ 1000000) := by show _ ≤ _; omega
        have HBS : Hid (w2.heap.size + 1 ≤ (w3.alloc (.cells #[.int .i64 k] 3)).heap.size) := by show _ ≤ _; have := HA4.out.size; have := HS1.out; omega
        have hrg4 := hrg1.alloc (.cells #[.int .i64 k] 3)
        clear c4 hen hrg1
        go_wp2_with (at_builtin; refine wpList_append_int rfl (.tmp 24) (.tmp 26) rfl rfl rfl HI4.out (World.alloc_heap_new w3 _) HLL.out HBS.out ?_; intro v' w5 ho5 hg5 _; have HO5 := Lib.hid ho5; have HG5 := Lib.hid hg5; clear ho5 hg5)
        have hrb : ∀ b, u3.ownBlock = some b → w2.heap.size + 1 ≤ b := fun b e => (HI4.out.blk e).1
        have hrg5 := hrg4.kept HG5.out (fun e => by have := hrb M e.symm; omega) (fun e => by have := hrb _ e.symm; omega)
        have HG5' : Hid (GrpAt w5 (w1.heap.size + 1) M E (wayL x)) := (HG3.out.below HA4.out).cellsB HG5.out fun b e => by
          obtain ⟨_, arr, xx, hb⟩ := HI4.out.blk e
          exact ⟨_, hb, fun _ _ e => (by cases e), fun _ _ e => (by cases e)⟩
        have HB5 : Hid (Below w.heap.size w w5) := (HB3.out.trans (HA4.out.mono HB3.out.size)).grown HG5.out (by have := HB3.out.size; have := HA4.out.size; have := HS1.out; omega) (fun b e => by have := hrb b e; have := HB1.out.size; omega)
        refine ⟨⟨_, cnt1, L ++ [k], hrg5, HNW.out, HND2.out, ?_, HB5.out, HG5'.out, by have := HG5.out.size; have := HBS.out; omega, by simp; omega⟩, by rw [hrg5.left_eq, hrg.left_eq]; exact hlt⟩
        show World.ownsRow _ _ _ _ _ _ _
        rw [List.length_append]
        exact HO5.out
      · have hb1 : (s.kind == 1) = false := by simp [h1]
        have HNW : Hid (Got E (fun z => left z && !z.sameKey (.int .i64 k)) (InG (wayL x)) (L ++ [])) := got_next HP.out (by rw [HLK.out]; simp) fun b => by
          refine Iff.intro (fun h => by cases h) (fun h => ?_)
          obtain ⟨_, t, h2, h3⟩ := h
          rw [HLS.out] at h2
          cases h2
          exact absurd h3 h1
        rw [List.append_nil] at HNW
        clear h1 HP
        go_wp2_with fail
        exact ⟨⟨_, cnt1, L, hrg1, HNW.out, HND.out, HO3.out, HB3.out, HG3.out, by omega, by omega⟩, by rw [hrg1.left_eq, hrg.left_eq]; exact hlt⟩
end Go.Proofs.Ytpmoelkblngamaa
