/- hold.Expire: the walk. -/
import Derived.Test.YtkdbenoleendcaaGreatDoorQHMB27
import Derived.Maps.RangeWalk

namespace Go.Proofs.YtkdbenoleendcaaGreatDoor
open Go.RowKit Go.IntWalk Go.Maps Go.WideMaps Go.Sort

theorem sort_own (B n : Nat) (v : Value) (ss : List Int) (w : World) (hB : B ≤ w.heap.size) (hn : n ≤ 1000) (h : w.ownsRow B 3 1 v n (ss.map (Value.int .i64))) :
    Calls Tryz.prog 43 #[v] w fun e w' => e = .returned (.tuple #[]) ∧ w'.ownsRow B 3 1 v n ((ss.mergeSort (fun x y => decide (x ≤ y))).map (Value.int .i64)) ∧ w.grownBy w' v.ownBlock := by
  have hlen : ss.length = n := by have := h.1; simpa using this
  rcases h.2 with ⟨rfl, hz⟩ | ⟨gb, cap, cur, rfl, hbase, hgb, r1, r2, r3, r4⟩
  · have hss : ss = [] := List.eq_nil_of_length_eq_zero (by omega)
    subst hss
    refine (Tryz.slices_Sort_int_none none 0 w).mono ?_
    rintro e w' ⟨rfl, rfl⟩
    exact ⟨rfl, by simpa using h, grown_refl w' _⟩
  · have hH : Holds encZ w gb 0 ss.toArray := holds_of_block_i hgb (by rw [hlen]; simpa using r4)
    have hgl : gb < w.heap.size := (Array.getElem?_eq_some_iff.1 hgb).1
    have hs := Tryz.slices_Sort_int gb 0 cap ss w hH hgl (by omega)
    rw [hlen] at hs
    refine hs.mono ?_
    rintro e w' ⟨rfl, k, os, rfl⟩
    refine ⟨rfl, ?_, grownBy_sorted_i _⟩
    have := ownsRow_sorted_i (n := k) (os := os) (ts := ss.mergeSort fun x y => decide (x ≤ y)) (ss := ss) (by simp) hbase hgb (by omega) r2 (by simpa using r3)
    rw [hlen] at this
    exact this

/-- What has come of the map: those over that have come are on the list, each once. -/
structure Over (E : List OwnT) (now : Int) (left : Lit → Bool) (ss : List Int) : Prop where
  nodup : ss.Nodup
  mem : ∀ x, x ∈ ss ↔ ∃ y ∈ E, y.1.1 = x ∧ y.1.2.2.2.1 < now ∧ left (.int .i64 x) = false

theorem Over.start (E : List OwnT) (now : Int) : Over E now (Maps.has (mapH E)) [] := by
  refine ⟨List.nodup_nil, fun x => ⟨fun h => by simp at h, ?_⟩⟩
  rintro ⟨y, hy, e, _, h⟩
  rw [mapH_has] at h
  unfold findO at h
  rw [Option.isSome_eq_false_iff, Option.isNone_iff_eq_none] at h
  have := List.find?_eq_none.mp h y hy
  simp [e] at this

theorem Over.skip {E : List OwnT} {now : Int} {left : Lit → Bool} {ss : List Int} (h : Over E now left ss) (ha : Asc E) {y : OwnT} (hy : y ∈ E) (hn : ¬ y.1.2.2.2.1 < now) : Over E now (fun z => left z && !z.sameKey (.int .i64 y.1.1)) ss := by
  refine ⟨h.nodup, fun x => (h.mem x).trans ?_⟩
  refine ⟨fun ⟨z, hz, e, hlt, hl⟩ => ⟨z, hz, e, hlt, by simp [hl]⟩, fun ⟨z, hz, e, hlt, hl⟩ => ⟨z, hz, e, hlt, ?_⟩⟩
  simp only [same_int, Bool.and_eq_false_iff, Bool.not_eq_false', decide_eq_true_eq] at hl
  rcases hl with hl | hl
  · exact hl
  · exfalso
    have : z = y := by
      obtain ⟨i, hi, rfl⟩ := List.getElem_of_mem hz
      obtain ⟨j, hj, rfl⟩ := List.getElem_of_mem hy
      rcases Nat.lt_trichotomy i j with h1 | h1 | h1
      · have := List.pairwise_iff_getElem.mp ha i j hi hj h1; omega
      · subst h1; rfl
      · have := List.pairwise_iff_getElem.mp ha j i hj hi h1; omega
    rw [this] at hlt
    exact hn hlt

theorem Over.add {E : List OwnT} {now : Int} {left : Lit → Bool} {ss : List Int} (h : Over E now left ss) {y : OwnT} (hy : y ∈ E) (hn : y.1.2.2.2.1 < now) (hl : left (.int .i64 y.1.1) = true) : Over E now (fun z => left z && !z.sameKey (.int .i64 y.1.1)) (ss ++ [y.1.1]) := by
  have hnew : y.1.1 ∉ ss := fun hm => by
    obtain ⟨z, _, _, _, h5⟩ := (h.mem _).mp hm
    rw [hl] at h5
    cases h5
  refine ⟨List.nodup_append.2 ⟨h.nodup, by simp, fun a ha b hb => by simp at hb; subst hb; exact fun e => hnew (e ▸ ha)⟩, fun x => ?_⟩
  rw [List.mem_append, h.mem x, List.mem_singleton]
  constructor
  · rintro (⟨z, hz, e, hlt, h5⟩ | rfl)
    · exact ⟨z, hz, e, hlt, by simp [h5]⟩
    · exact ⟨y, hy, rfl, hn, by simp [same_int]⟩
  · rintro ⟨z, hz, e, hlt, h5⟩
    simp only [same_int, Bool.and_eq_false_iff, Bool.not_eq_false', decide_eq_true_eq] at h5
    rcases h5 with h5 | h5
    · exact Or.inl ⟨z, hz, e, hlt, h5⟩
    · exact Or.inr h5

theorem Over.sorted {E : List OwnT} {now : Int} {left : Lit → Bool} {ss : List Int} (h : Over E now left ss) (ha : Asc E) (hl : ∀ kl, left kl = false) : ss.mergeSort (fun x y => decide (x ≤ y)) = overS (E.map (·.1)) now := by
  have hpw : (overS (E.map (·.1)) now).Pairwise (fun a b => a < b) := by
    unfold overS
    rw [List.pairwise_map]
    refine List.Pairwise.filter _ ?_
    rw [List.pairwise_map]
    exact ha
  have hp : ss.Perm (overS (E.map (·.1)) now) := by
    refine (List.perm_ext_iff_of_nodup h.nodup (hpw.imp (fun h => by omega))).2 fun x => ?_
    rw [h.mem x, mem_over]
    constructor
    · rintro ⟨y, hy, e, hlt, _⟩
      exact ⟨y.1, List.mem_map_of_mem hy, e, hlt⟩
    · rintro ⟨z, hz, e, hlt⟩
      obtain ⟨y, hy, rfl⟩ := List.mem_map.mp hz
      exact ⟨y, hy, e, hlt, hl _⟩
  refine List.Perm.eq_of_pairwise (le := fun a b => a ≤ b) (fun a b _ _ h1 h2 => by omega) ?_ (hpw.imp (fun h => by omega)) ((List.mergeSort_perm ss _).trans hp)
  have := List.pairwise_mergeSort (le := fun (x y : Int) => decide (x ≤ y)) (fun a b c h1 h2 => by simp only [decide_eq_true_eq] at *; omega) (fun a b => by simp only [Bool.or_eq_true, decide_eq_true_eq]; omega) ss
  exact this.imp (fun h => by simpa using h)

theorem Over.len {E : List OwnT} {now : Int} {left : Lit → Bool} {ss : List Int} (h : Over E now left ss) : ss.length ≤ E.length := by
  have : ss.length ≤ (E.map (·.1.1)).length := by
    refine List.Nodup.length_le_of_subset h.nodup fun x hx => ?_
    obtain ⟨y, hy, e, _⟩ := (h.mem x).mp hx
    exact List.mem_map.mpr ⟨y, hy, e⟩
  simpa using this

/-- What a range over the map hands out. -/
theorem came_hold {E : List OwnT} {key v : Value} {kl : Lit} {d : DataW Value} {ps : List MemPlace} (hk : keyOf Tryz.prog 3 key = some kl) (hR : RH v = some (d, ps)) (hat : ∀ zd, (mapH E).atKey kl zd = d) :
    ∃ y ∈ E, key = .int .i64 y.1.1 ∧ kl = .int .i64 y.1.1 ∧ v = holdV y := by
  obtain ⟨x, hx, rfl, _⟩ := Maps.keyOf_i64 Tryz.underlying3 hk
  have h1 := hat (.held (.bool true))
  have h2 := hat (.held (.bool false))
  rw [mapH_at] at h1 h2
  cases hf : findO E x with
  | none =>
    rw [hf] at h1 h2
    dsimp only at h1 h2
    rw [← h1] at h2
    simp at h2
  | some y =>
    rw [hf] at h1
    dsimp only at h1
    obtain ⟨hy, e⟩ := findO_mem hf
    subst e
    rw [← h1] at hR
    exact ⟨y, hy, hx, rfl, RH_inv hR⟩

theorem row_of_heap {w w' : World} {B k n : Nat} {T : TypeId} {v : Value} {xs : List Value} (h : w.ownsRow B T k v n xs) (e : ∀ r, v.ownBlock = some r → w'.heap[r]? = w.heap[r]?) : w'.ownsRow B T k v n xs := by
  refine ⟨h.1, ?_⟩
  rcases h.2 with h0 | ⟨g, cap, cur, rfl, hb, hh, r⟩
  · exact Or.inl h0
  · exact Or.inr ⟨g, cap, cur, rfl, hb, (e g rfl).trans hh, r⟩

theorem int_new (W : World) (x : Int) : ∀ (j : Nat) (u : Value), ([Value.int .i64 x])[j]? = some u → (W.alloc (.cells #[.int .i64 x] 3)).cell? ((⟨W.heap.size, 0, none⟩ : Addr).add j) = some u := by
  intro j u hj
  rw [add_none]
  have hb := World.alloc_heap_new W (.cells #[.int .i64 x] 3)
  rw [Nat.zero_add, cell_of_row _ _ _ _ _ _ hb]
  simpa using hj

/-- What Expire returns, and leaves. -/
def ExpPost (F : Nat → Prop) (g M sb : Nat) (w : World) (r : List Int × St) (e : Ending) (w' : World) : Prop :=
  ∃ v E', e = .returned v ∧ w'.ownsRow w.heap.size 3 1 v r.1.length (r.1.map (Value.int .i64)) ∧ HoldC w' F g M sb E' r.2 ∧ Upd (Own3 g M sb) w w'

theorem int_info : (Tryz.prog.info? 3).map (fun i => (i.zero, i.size, i.bytes)) = some (some (.int .i64 0), 1, 8) := by kernel_rfl

theorem endAll_snoc (st : St) {l : List Int} {i : Nat} (h : i < l.length) : endAll st (l.take (i + 1)) = (endS (endAll st (l.take i)) (ix l i) (0, 0)).2 := by
  have : l.take (i + 1) = l.take i ++ [ix l i] := by
    rw [List.take_succ_eq_append_getElem h, ix_get h]
  rw [this]
  unfold endAll
  rw [List.foldl_append]
  rfl

theorem Ints.of_own {w : World} {B n : Nat} {v : Value} {L : List Int} (h : w.ownsRow B 3 1 v n (L.map (Value.int .i64))) : ∃ pa pc, v = .slice pa n pc ∧ Ints w pa n L := by
  have hlen : L.length = n := by have := h.1; simpa using this
  rcases Nat.eq_zero_or_pos n with h0 | h0
  · rcases h.2 with ⟨rfl, _⟩ | ⟨g, cap, cur, rfl, _⟩
    · exact ⟨none, 0, by rw [h0], hlen, fun k hk => by omega⟩
    · exact ⟨_, _, rfl, hlen, fun k hk => by omega⟩
  · obtain ⟨g, c, rfl, _, hr⟩ := IntRow.of_row h0 h
    exact ⟨_, _, rfl, hlen, fun k hk => ⟨g, 0, rfl, by rw [Nat.zero_add]; exact hr.cell k (by omega)⟩⟩

set_option maxRecDepth 100000 in
set_option maxHeartbeats 3200000 in
theorem expire_any (w : World) (F : Nat → Prop) (g M sb : Nat) (E : List OwnT) (st : St) (now : Int) (h : HoldC w F g M sb E st) (hE : E.length ≤ 1000) (hla : st.last ≤ 900000000) :
    Calls Tryz.prog 24 #[.pointer (some ⟨g, 0, none⟩), .int .i64 now] w (ExpPost F g M sb w (expireS st now)) := by
  have HH := Lib.hid h
  have HAS := Lib.hid h.asc
  have hown := h.map
  have hMl := hown.lt
  have g0 : w.cell? ⟨g, 0, none⟩ = some (.map (some M)) := by rw [cell_of_row _ _ _ _ _ _ h.blk]; rfl
  obtain ⟨i1, hj, hj0, hj1, hj2⟩ := info_parts' int_info
  clear h
  go_enter Tryz.func24, Tryz.ntmps24
  go_wp2_with (at_range; refine wpList_range_own _ rfl _ 54 rfl 3 51 lawI Tryz.underlying54 _ M _ _ rfl hown ?_; intro w0 hrg0 hg0 hs0)
  go_frame
  go_loopw [5, 6, 7] (fun v5 v6 v7 wr => ∃ (left : Lit → Bool) (cnt : Nat) (L : List Int), wr.ranges Tryz.prog 3 RH M w.heap.size E.length (mapH E) left cnt ∧ Hid (Over E now left L) ∧ Hid (wr.ownsRow (w.heap.size + 1) 3 1 v5 L.length (L.map (Value.int .i64))) ∧ Hid (Below w.heap.size w wr) ∧ w.heap.size + 1 ≤ wr.heap.size)
    (fun _ _ _ wr => wr.rangeLeft M w.heap.size)
  case atStart =>
    exact ⟨_, _, [], hrg0, Over.start E now, ⟨rfl, Or.inl ⟨rfl, rfl⟩⟩, (Below.refl _ _).grown hg0 (Nat.le_refl _) (fun j hj => by cases hj), by omega⟩
  case round =>
    obtain ⟨left, cnt, L, hrg, HP, HO, HB, hszr⟩ := hrel
    go_wp2_with (at_next; refine wpList_next_ranges _ rfl _ rfl 3 lawI RH (Value.int .i64) id (fun key kl hkey => by obtain ⟨x, e, _⟩ := Maps.keyOf_i64 Tryz.underlying3 hkey; exact ⟨x, e⟩) (fun v y hv => ⟨v, rfl⟩) M w.heap.size _ _ _ _ rfl hrg ?_ ?_)
    · intro hc0 hl0
      have HST : Hid (L.mergeSort (fun x y => decide (x ≤ y)) = overS st.op now) := by
        show _ = _
        rw [HP.out.sorted HAS.out hl0, HH.out.ops]
      have hLn := HP.out.len
      have hsz := HB.out.size
      clear hl0 hc0 hrg
      go_wp2_with fail
      refine (sort_own (w.heap.size + 1) L.length u5 L wr hszr (by omega) HO.out).mono ?_
      rintro e w2 ⟨rfl, ho2, hg2⟩
      rw [HST.out] at ho2
      have HO2 := Lib.hid ho2
      have HB2 : Hid (Below w.heap.size w w2) := HB.out.grown hg2 HB.out.size (fun k hk => by have := (HO.out.lt k hk).1; omega)
      obtain ⟨L', hL'⟩ : ∃ L', L' = overS st.op now := ⟨_, rfl⟩
      have HL' := Lib.hid hL'
      rw [← hL'] at HO2
      clear ho2 hg2 HO HB HST hL'
      obtain ⟨pa, pc, rfl, hI⟩ := Ints.of_own HO2.out
      obtain ⟨n, hn⟩ : ∃ n, n = L.length := ⟨_, rfl⟩
      rw [← hn] at HO2 hI ⊢
      have hlen := hI.1
      have hn1 : n ≤ 1000 := by omega
      clear hI hn
      have HH2 : Hid (HoldC w2 F g M sb E st) := HH.out.keep (T := fun _ => False) (Upd.of_below HB2.out) (fun _ _ h => h) (fun _ _ h => h)
      have HID : Hid (∀ i, i < n → 1 ≤ ix L' i ∧ ix L' i ≤ st.last) := by
        intro i hi
        have hm := ix_mem (l := L') (i := i) (by omega)
        rw [HL'.out] at hm
        obtain ⟨x, hx, e, _⟩ := mem_over.mp hm
        rw [HL'.out, ← e]
        exact HH.out.inv.rng x hx
      obtain ⟨wo, rfl⟩ : ∃ wo : World, wo = wr := ⟨_, rfl⟩
      go_wp2_with fail
      go_loopw [9, 34] (fun v9 v34 wr => ∃ i : Nat, v34 = .int .i64 i ∧ i ≤ n ∧ Hid (∃ E', HoldC wr F g M sb E' (endAll st (L'.take i))) ∧ Hid (Upd (Own3 g M sb) w wr) ∧ Hid (wr.ownsRow (w.heap.size + 1) 3 1 (.slice pa n pc) n (L'.map (Value.int .i64)))) (fun _ v34 _ => n - (intOf v34).toNat)
      case atStart => exact ⟨0, rfl, Nat.zero_le _, ⟨E, HH2.out⟩, Upd.of_below HB2.out, HO2.out⟩
      case round =>
        obtain ⟨i, rfl, hi, HE, HU, HR⟩ := hrel
        obtain ⟨E', hE'⟩ := HE.out
        by_cases hlt : i < n
        · obtain ⟨pa', pc', e, hI⟩ := Ints.of_own HR.out
          obtain ⟨b, o, e2, c0⟩ := hI.2 i hlt
          cases e
          subst e2
          have hid := HID.out i hlt
          have HEN := Lib.hid (end_any wr F g M sb E' _ (ix L' i) (0, 0) hE' (by simp only [Lit.wf, show IntKind.i64.min = -9223372036854775808 from by decide, show IntKind.i64.max = 9223372036854775807 from by decide]; simp; omega) (end_inv hE'.inv _ _ (Or.inl rfl)))
          have HSN := Lib.hid (endAll_snoc st (l := L') (i := i) (by omega))
          have HHr := Lib.hid hE'
          have hsb := (HB2.out.size)
          clear hI hE' HE
          generalize ix L' i = id at *
          go_wp2_with fail
          refine HEN.out.mono ?_
          rintro e w5 ⟨v5, E5, rfl, _, hh5, hu5⟩
          have HH5 := Lib.hid hh5
          have HU5 := Lib.hid hu5
          clear hh5 hu5 HEN c0
          go_wp2_with fail
          refine ⟨⟨i + 1, by go_num, hlt, ⟨E5, ?_⟩, HU.out.trans HU5.out, ?_⟩, by simp [intOf]; omega⟩
          · rw [HSN.out]; exact HH5.out
          · refine row_of_heap HR.out (fun r hr => HU5.out.block r (HR.out.lt r hr).2 ?_)
            have h1 := (HR.out.lt r hr).1
            have h2 := lt_of_block HH.out.blk
            obtain ⟨arr, ha, _⟩ := HH.out.sps
            have h3 := lt_of_block ha
            rintro (e | e | e) <;> omega
        · have hi' : i = n := by omega
          subst hi'
          have hT : L'.take i = L' := List.take_of_length_le (by omega)
          rw [hT] at HE
          clear hT
          go_wp2_with fail
          go_ret
          obtain ⟨E', hE'⟩ := HE.out
          refine ⟨_, E', rfl, ?_, ?_, HU.out⟩
          · have hR := HR.out
            show World.ownsRow _ _ _ _ _ (overS st.op now).length ((overS st.op now).map _)
            rw [← HL'.out, hlen]
            exact ownsRow_base_a hR (by omega)
          · show HoldC _ _ _ _ _ _ (endAll st (overS st.op now))
            rw [← HL'.out]
            exact hE'
    · intro k c kl yd yp w1 cnt1 hkl hlx hR hat hrg1 hlt hg1 hs1 hen
      obtain ⟨y, hy, ek, rfl, ev⟩ := came_hold hkl hR hat
      obtain rfl : k = y.1.1 := by simpa using ek
      subst ev
      have HY := Lib.hid hy
      have HLX := Lib.hid hlx
      have HO1 : Hid (w1.ownsRow (w.heap.size + 1) 3 1 u5 L.length (L.map (Value.int .i64))) := row_of_heap HO.out (fun r hr => by have h := HO.out.lt r hr; exact hg1.block r h.2 (fun e => by have := Option.some.inj e; omega))
      have HB1 : Hid (Below w.heap.size w w1) := HB.out.grown hg1 HB.out.size (fun j hj => by cases hj; exact Nat.le_refl _)
      have hLn := HP.out.len
      have hsz := HB.out.size
      clear hat hkl hR ek hg1 hlx hy
      obtain ⟨⟨yid, ynm, yL, yt, yc⟩, ya, ycap⟩ := y
      simp only [holdV] at hen
      dsimp only at hrg1 HLX ⊢
      go_upto_region 7 with fail
      have hnb := World.alloc_heap_new w1 (.cells #[.int .i64 yid, .string (bs ynm), .int .i64 0, .slice ya yL.length ycap, .int .i64 yt, .int .i64 yc] 51)
      have hrg2 := hrg1.alloc (.cells #[.int .i64 yid, .string (bs ynm), .int .i64 0, .slice ya yL.length ycap, .int .i64 yt, .int .i64 yc] 51)
      have HO2 := Lib.hid (HO1.out.alloc (.cells #[.int .i64 yid, .string (bs ynm), .int .i64 0, .slice ya yL.length ycap, .int .i64 yt, .int .i64 yc] 51))
      have HB2 := Lib.hid (HB1.out.alloc HB1.out.size (.cells #[.int .i64 yid, .string (bs ynm), .int .i64 0, .slice ya yL.length ycap, .int .i64 yt, .int .i64 yc] 51))
      rw [hs1] at hnb
      clear hen hrg1 HO1 HB1
      generalize w1.alloc (.cells #[.int .i64 yid, .string (bs ynm), .int .i64 0, .slice ya yL.length ycap, .int .i64 yt, .int .i64 yc] 51) = w2 at *
      have x0 : w2.cell? ⟨wr.heap.size, 4, none⟩ = some (.int .i64 yt) := by rw [cell_of_row _ _ _ _ _ _ hnb]; rfl
      have hsz2 := lt_of_block hnb
      clear hnb hs1
      by_cases hlt2 : yt < now
      · have HLT := Lib.hid hlt2
        go_wp2_with (at_builtin; refine wpList_append_own _ rfl _ _ 29 rfl (w.heap.size + 1) 3 i1 _ 1 8 Tryz.underlying29 hj hj0 hj1 hj2 rfl (by decide) _ _ _ rfl (HO2.out.alloc _) ⟨w2.heap.size, 0, none⟩ 1 1 [.int .i64 yid] rfl rfl (int_new w2 yid) (by simp [Value.oneCell']) (by unfold maxLen; omega) (by omega) (by simp; omega) ?_; intro v' w4 hown' hgrow _; have HN := Lib.hid (And.intro hown' hgrow); clear hown' hgrow)
        have hrow : ∀ r, u5.ownBlock = some r → w.heap.size + 1 ≤ r := fun r hr => (HO2.out.lt r hr).1
        have hrg4 := (hrg2.alloc (.cells #[.int .i64 yid] 3)).kept HN.out.2 (fun e => by have := hrow M e.symm; omega) (fun e => by have := hrow w.heap.size e.symm; omega)
        refine ⟨⟨_, cnt1, L ++ [yid], hrg4, HP.out.add HY.out HLT.out HLX.out, ?_, (HB2.out.alloc (by omega) _).grown HN.out.2 (by simp; omega) (fun j hj => by have := hrow j hj; omega), by have := HN.out.2.size; simp at this; omega⟩, by rw [hrg4.left_eq, hrg.left_eq]; exact hlt⟩
        show w4.ownsRow _ _ _ _ _ _
        rw [List.map_append, List.length_append, List.length_singleton]
        exact HN.out.1
      · have HLT := Lib.hid hlt2
        go_wp2_with fail
        exact ⟨⟨_, cnt1, L, hrg2, HP.out.skip HAS.out HY.out HLT.out, HO2.out, HB2.out, by omega⟩, by rw [hrg2.left_eq, hrg.left_eq]; exact hlt⟩
end Go.Proofs.YtkdbenoleendcaaGreatDoor
