/- refund, plain: means that are taken of what is left, one by one; refund.means.less: the walk. -/
import Derived.Test.YtgpmhaeiccljaaaDoorRA
import Derived.StillTailTactics
namespace Go.Proofs.YtgpmhaeiccljaaaDoor

/-- Means that can be taken of l. -/
structure PartOf (l t : List MeanT) : Prop where
  diff : Diff t
  here : ∀ j, j < t.length → ∃ i, i < l.length ∧ nm l i = nm t j ∧ 1 ≤ am t j ∧ am t j ≤ am l i

/-- The list with the amounts less by what is taken. -/
def subS (l t : List MeanT) : List MeanT := l.map fun m => (m.1, m.2 - ofS t m.1)

theorem subS_len (l t : List MeanT) : (subS l t).length = l.length := by simp [subS]

theorem subS_nm (l t : List MeanT) (i : Nat) (h : i < l.length) : nm (subS l t) i = nm l i := by
  rw [nm_eq _ _ (by rw [subS_len]; exact h), nm_eq _ _ h]
  simp [subS]

theorem subS_am (l t : List MeanT) (i : Nat) (h : i < l.length) : am (subS l t) i = am l i - ofS t (nm l i) := by
  rw [am_eq _ _ (by rw [subS_len]; exact h), am_eq _ _ h, nm_eq _ _ h]
  simp [subS]

theorem subS_nil (l : List MeanT) : subS l [] = l :=
  mean_ext (subS_len l []) fun i hi => by
    rw [subS_len] at hi
    exact ⟨subS_nm _ _ i hi, by rw [subS_am _ _ i hi]; show _ - 0 = _; omega⟩

theorem of_snoc (x : MeanT) (n : Name) : ∀ (t : List MeanT), (∀ m ∈ t, m.1 ≠ x.1) → ofS (t ++ [x]) n = ofS t n + if x.1 = n then x.2 else 0
  | [], _ => by simp [ofS]
  | m :: t, h => by
    have ih := of_snoc x n t (fun y hy => h y (by simp [hy]))
    have hm := h m (by simp)
    rw [List.cons_append, ofS, ofS, ih]
    by_cases e : m.1 = n
    · rw [if_pos e, if_pos e, if_neg (fun e2 => hm (by rw [e, e2]))]; omega
    · rw [if_neg e, if_neg e]

theorem of_take_next {t : List MeanT} (h : Diff t) (j : Nat) (hj : j < t.length) (n : Name) : ofS (t.take (j + 1)) n = ofS (t.take j) n + if nm t j = n then am t j else 0 := by
  rw [List.take_succ_eq_append_getElem hj, of_snoc, nm_eq _ _ hj, am_eq _ _ hj]
  intro m hm e
  obtain ⟨q, hq, rfl⟩ := List.getElem_of_mem hm
  rw [List.length_take] at hq
  rw [List.getElem_take] at e
  have := diff_inj h (i := q) (j := j) (by omega) hj (by rw [nm_eq _ _ (by omega), nm_eq _ _ hj]; exact e)
  omega

theorem subS_next {l t : List MeanT} (hl : Diff l) (ht : Diff t) (i j : Nat) (hi : i < l.length) (hj : j < t.length) (e : nm l i = nm t j) :
    subS l (t.take (j + 1)) = (subS l (t.take j)).set i (nm l i, am (subS l (t.take j)) i - am t j) := by
  refine mean_ext (by rw [subS_len, List.length_set, subS_len]) fun q hq => ?_
  rw [subS_len] at hq
  have hq2 : q < ((subS l (t.take j)).set i (nm l i, am (subS l (t.take j)) i - am t j)).length := by rw [List.length_set, subS_len]; exact hq
  rw [subS_nm _ _ q hq, subS_am _ _ q hq, nm_eq _ _ hq2, am_eq _ _ hq2, of_take_next ht j hj]
  by_cases hqi : i = q
  · subst hqi
    rw [List.getElem_set_self, if_pos e.symm, subS_am _ _ i hi]
    exact ⟨rfl, by show _ = _ - _ - _; omega⟩
  · have hq3 : q < (subS l (t.take j)).length := by rw [subS_len]; exact hq
    rw [List.getElem_set_ne hqi, ← nm_eq _ _ hq3, ← am_eq _ _ hq3, subS_nm _ _ q hq, subS_am _ _ q hq, if_neg (fun e2 => hqi (diff_inj hl hi hq (by rw [e, e2])))]
    exact ⟨rfl, by omega⟩

theorem subS_here {l t : List MeanT} (ht : Diff t) (i j : Nat) (hi : i < l.length) (hj : j < t.length) (e : nm l i = nm t j) : am (subS l (t.take j)) i = am l i := by
  rw [subS_am _ _ i hi, of_none, Int.sub_zero]
  intro q hq e2
  rw [List.length_take] at hq
  have e3 : nm (t.take j) q = nm t q := by rw [nm_eq _ _ (by rw [List.length_take]; omega), nm_eq _ _ (by omega), List.getElem_take]
  have := diff_inj ht (i := q) (j := j) (by omega) hj (by rw [← e3, e2, e])
  omega

theorem keep_somePos : ∀ (l t : List MeanT), (∀ m ∈ l, ofS t m.1 ≤ m.2) → keepS (subS l t) = somePos (l.map (·.1)) (l.map fun m => m.2 - ofS t m.1)
  | [], _, _ => rfl
  | m :: l, t, h => by
    have ih := keep_somePos l t (fun x hx => h x (by simp [hx]))
    have hm := h m (by simp)
    unfold keepS subS at ih ⊢
    rw [List.map_cons, List.map_cons, List.map_cons, List.filter_cons, somePos, ih]
    by_cases e : m.2 - ofS t m.1 = 0
    · rw [if_neg (by simp [e]), if_neg (by omega)]
    · rw [if_pos (by simp [e]), if_pos (by omega)]

theorem PartOf.range {l t : List MeanT} (h : PartOf l t) (hl : Good l) (i : Nat) (hi : i < l.length) : 0 ≤ ofS t (nm l i) ∧ ofS t (nm l i) ≤ am l i := by
  have hpos := hl.pos i hi
  by_cases hex : ∃ j, j < t.length ∧ nm t j = nm l i
  · obtain ⟨j, hj, e⟩ := hex
    rw [← e, of_at h.diff j hj]
    obtain ⟨i', hi', e', h1, h2⟩ := h.here j hj
    have := diff_inj hl.diff hi' hi (by rw [e', e])
    subst this
    omega
  · rw [of_none (fun j hj e => hex ⟨j, hj, e⟩)]
    omega

theorem keep_sub {l t : List MeanT} (h : PartOf l t) (hl : Good l) : keepS (subS l t) = takeS l t := by
  refine keep_somePos l t fun m hm => ?_
  obtain ⟨i, hi, rfl⟩ := List.getElem_of_mem hm
  have := (h.range hl i hi).2
  rwa [nm_eq _ _ hi, am_eq _ _ hi] at this

theorem PartOf.good {l t : List MeanT} (h : PartOf l t) (hl : Good l) : Good (takeS l t) :=
  take_good hl t (fun i hi => by have := h.range hl i hi; omega) (fun i hi => (h.range hl i hi).1)

theorem some_mem : ∀ (ns : List Name) (ps : List Int), ∀ m ∈ somePos ns ps, ∃ (i : Nat) (h1 : i < ns.length) (h2 : i < ps.length), m = (ns[i], ps[i]) ∧ 0 < ps[i]
  | [], ps => by cases ps <;> simp [somePos]
  | _ :: _, [] => by simp [somePos]
  | n :: ns, p :: ps => by
    intro m hm
    rw [somePos] at hm
    have rest : m ∈ somePos ns ps → ∃ (i : Nat) (h1 : i < (n :: ns).length) (h2 : i < (p :: ps).length), m = ((n :: ns)[i], (p :: ps)[i]) ∧ 0 < (p :: ps)[i] := fun h => by
      obtain ⟨i, h1, h2, e, hp⟩ := some_mem ns ps m h
      exact ⟨i + 1, by simpa using h1, by simpa using h2, by simpa using e, by simpa using hp⟩
    split at hm
    · rcases List.mem_cons.mp hm with rfl | h
      · exact ⟨0, by simp, by simp, rfl, by simpa⟩
      · exact rest h
    · exact rest hm

theorem part_partOf {l : List MeanT} {a : Int} (h : Good l) (h0 : 0 ≤ a) (h1 : a ≤ totS l) (hne : l ≠ []) : PartOf l (partList l a) := by
  refine ⟨part_diff h, fun j hj => ?_⟩
  obtain ⟨i, k1, k2, e, hp⟩ := some_mem _ _ _ (List.getElem_mem hj)
  have hi : i < l.length := by simpa using k1
  have hok := part_ok h h0 h1 hne i hi
  have e1 : nm (partList l a) j = nm l i := by rw [nm_eq _ _ hj, e, nm_eq _ _ hi]; simp
  have e2 : am (partList l a) j = ix (splitS a (wts l)) i := by rw [am_eq _ _ hj, e, ix_eq _ _ k2]
  rw [← ix_eq _ _ k2] at hp
  exact ⟨i, hi, e1.symm, by rw [e2]; omega, by rw [e2]; exact hok.hi⟩

theorem nil_partOf (l : List MeanT) : PartOf l [] := ⟨List.nodup_nil, fun j hj => by simp at hj⟩

theorem one_partOf {l : List MeanT} (h : Good l) (i : Nat) (hi : i < l.length) : PartOf l [(nm l i, am l i)] := by
  refine ⟨by simp [Diff], fun j hj => ?_⟩
  have : j = 0 := by simpa using hj
  subst this
  have e1 : nm [(nm l i, am l i)] 0 = nm l i := by rw [nm_eq _ _ (by simp)]; rfl
  have e2 : am [(nm l i, am l i)] 0 = am l i := by rw [am_eq _ _ (by simp)]; rfl
  exact ⟨i, hi, e1.symm, by rw [e2]; exact h.pos i hi, by rw [e2]; omega⟩

/-- What part returns can be taken. -/
theorem mpart_partOf {l : List MeanT} {a : Int} (h : Good l) : PartOf l (mpartS l a).1 := by
  unfold mpartS
  split
  · exact nil_partOf l
  · split
    · exact nil_partOf l
    · split
      · exact nil_partOf l
      · exact part_partOf h (by omega) (by omega) (by assumption)

/-! ### What Back and Charge do -/
def backS (l : List MeanT) (a : Int) : List MeanT := if (mpartS l a).2 = 0 then takeS l (mpartS l a).1 else l

theorem back_good {l : List MeanT} (h : Good l) (a : Int) : Good (backS l a) := by
  unfold backS
  split
  · exact (mpart_partOf h).good h
  · exact h

/-- What a charge takes of l: the means with the name. -/
def chgS (l : List MeanT) (n : Name) : List MeanT := if ofS l n = 0 then l else takeS l [(n, ofS l n)]

theorem has_name {l : List MeanT} (h : Good l) (n : Name) : ofS l n = 0 ∧ (∀ i, i < l.length → nm l i ≠ n) ∨ ∃ i, i < l.length ∧ nm l i = n ∧ ofS l n = am l i ∧ 1 ≤ am l i := by
  by_cases hex : ∃ i, i < l.length ∧ nm l i = n
  · obtain ⟨i, hi, e⟩ := hex
    exact .inr ⟨i, hi, e, by rw [← e, of_at h.diff i hi], h.pos i hi⟩
  · exact .inl ⟨of_none (fun i hi e => hex ⟨i, hi, e⟩), fun i hi e => hex ⟨i, hi, e⟩⟩

theorem chg_good {l : List MeanT} (h : Good l) (n : Name) : Good (chgS l n) := by
  unfold chgS
  split
  · exact h
  · rename_i hne
    rcases has_name h n with ⟨e, _⟩ | ⟨i, hi, e, e2, _⟩
    · exact absurd e hne
    · rw [e2, ← e]
      exact (one_partOf h i hi).good h

theorem first_name {l : List MeanT} (h : Diff l) (i : Nat) (hi : i < l.length) (n : Name) (e : nm l i = n) : firstAt (fun k => decide (nm l k = n)) 0 l.length = i := by
  rcases firstAt_lt (fun k => decide (nm l k = n)) l.length 0 with ⟨_, hall⟩ | ⟨j, hf, _, hj, hp, _⟩
  · have := hall i (by omega) (by omega)
    simp [e] at this
  · rw [hf]
    have hp' : nm l j = n := by simpa using hp
    have := diff_inj h (i := j) (j := i) (by omega) hi (by rw [hp', e])
    rw [this]

theorem no_name {l : List MeanT} (n : Name) (h : ∀ i, i < l.length → nm l i ≠ n) : firstAt (fun k => decide (nm l k = n)) 0 l.length = -1 := by
  rcases firstAt_lt (fun k => decide (nm l k = n)) l.length 0 with ⟨hf, _⟩ | ⟨j, _, _, hj, hp, _⟩
  · exact hf
  · have hp' : nm l j = n := by simpa using hp
    exact absurd hp' (h j (by omega))
end Go.Proofs.YtgpmhaeiccljaaaDoor
namespace Go.Proofs.YtgpmhaeiccljaaaDoor
open Go.RowKit Go.IntWalk

theorem hcf1 (args : Array Value) (w : World) : (callFunc 43 args).run Tryd.prog w = .ok (.enter 43 args) w := enters_of Tryd.func43 (by kernel_rfl) rfl args w

set_option maxRecDepth 10000 in
theorem delete_nil (la : Option Addr) (c : Nat) (w : World) :
    Calls Tryd.prog 44 #[.slice la 0 c, .func (.func 45) #[] #[]] w fun e w' => e = .returned (.slice la 0 c) ∧ Below w.heap.size w w' := by
  have HI := Lib.hid (index_means 45 #[] (fun m => decide (m.2 = 0)) la 0 c [] w (by omega) hcf2 ⟨rfl, fun i hi => absurd hi (Nat.not_lt_zero _)⟩ (fun k wr _ h => absurd h (Nat.not_lt_zero _)))
  go_enter Tryd.func44, Tryd.ntmps44
  go_wp2_with fail
  refine HI.out.mono ?_
  rintro e w1 ⟨rfl, hb1⟩
  have HB1 := Lib.hid hb1
  clear hb1 HI
  rw [firstAt]
  go_wp2_with fail
  go_ret
  exact ⟨rfl, HB1.out⟩

set_option maxRecDepth 10000 in
set_option maxHeartbeats 1600000 in
theorem less_any (ra rt : Option Addr) (n m c d : Nat) (l t : List MeanT) (w : World) (h : Means w ra n l) (ht : Means w rt m t) (hg : Good l) (hp : PartOf l t) (hn : n ≤ 100) (hm : m ≤ 100) :
    Calls Tryd.prog 34 #[.slice ra n c, .slice rt m d] w fun e w' => ∃ la k c', e = .returned (.slice la k c') ∧ Below w.heap.size w w' ∧ OwnRecs MeanE w' w.heap.size 46 la k (takeS l t) := by
  have HT := Lib.hid ht
  have HG := Lib.hid hg
  have HP := Lib.hid hp
  have hlen := h.1
  have htl := ht.1
  have HM := Lib.hid h
  clear h ht hg hp
  go_enter Tryd.func34, Tryd.ntmps34
  go_wp2_with fail
  refine (clone_means ra n c l w HM.out (by omega)).mono ?_
  rintro e w1 ⟨la, k, c1, rfl, hkc, hb1, ho⟩
  obtain rfl : k = n := by have := ho.1; omega
  have HB1 := Lib.hid hb1
  have HO1 : Hid (OwnRecs MeanE w1 w.heap.size 46 la k (subS l (t.take 0))) := by
    show OwnRecs _ _ _ _ _ _ _
    rw [List.take_zero, subS_nil]
    exact ho
  clear hb1 ho
  go_wp2_with fail
  go_loopw [13] (fun v13 wr => ∃ j : Nat, v13 = .int .i64 j ∧ j ≤ m ∧ Hid (Below w.heap.size w wr) ∧ Hid (OwnRecs MeanE wr w.heap.size 46 la k (subS l (t.take j)))) (fun v13 _ => m - (intOf v13).toNat)
  case atStart => exact ⟨0, rfl, Nat.zero_le _, HB1, HO1⟩
  case round =>
    clear HB1 HO1
    obtain ⟨j, rfl, hj, HB, HO⟩ := hrel
    by_cases hlt : j < m
    · obtain ⟨b, o, rfl, c0, c1'⟩ := Means.at (HT.out.below HB.out) j hlt
      obtain ⟨i, hi, he, ha1, ha2⟩ := HP.out.here j (by omega)
      have ha3 := HG.out.le i hi
      obtain ⟨g, rfl, hg, hr⟩ := HO.out.2 (by omega)
      have HCL := Lib.hid (subS_len l (t.take j))
      have HR := Lib.hid hr
      have HFI : Hid (firstAt (fun q => decide (nm (subS l (t.take j)) q = nm t j)) 0 k = i) := by
        have hd : Diff (subS l (t.take j)) := by
          unfold Diff subS
          rw [List.map_map]
          exact HG.out.diff
        have := first_name hd i (by rw [HCL.out]; exact hi) (nm t j) (by rw [subS_nm _ _ i hi]; exact he)
        rwa [HCL.out, hlen] at this
      have HAI := Lib.hid (subS_here HP.out.diff i j hi (by omega) he)
      have HSN := Lib.hid (subS_next HG.out.diff HP.out.diff i j hi (by omega) he)
      have HNI := Lib.hid (subS_nm l (t.take j) i hi)
      clear hr he
      go_upto_region 5 with fail
      have HB2 := Lib.hid (HB.out.trans ((Joins.below_alloc1 wr (.cells #[.string (bs (nm t j)), .int .i64 (am t j)] 46)).mono HB.out.size))
      have HR2 := Lib.hid (HR.out.below (Joins.below_alloc1 wr (.cells #[.string (bs (nm t j)), .int .i64 (am t j)] 46)))
      have HX : Hid (Boxed2 (wr.alloc (.cells #[.string (bs (nm t j)), .int .i64 (am t j)] 46)) wr.heap.size (.string (bs (nm t j))) (.int .i64 (am t j))) := World.alloc_heap_new wr _
      have hgl := HR.out.lt
      obtain ⟨bx, hbx⟩ : ∃ bx, wr.heap.size = bx := ⟨_, rfl⟩
      rw [hbx] at HX hgl
      generalize wr.alloc (.cells #[.string (bs (nm t j)), .int .i64 (am t j)] 46) = w2 at *
      rw [hbx]
      clear c0 c1' HB HO HR hbx
      have x0 := HX.out.c0
      go_wp2_with fail
      have hM2 : Means w2 (some ⟨g, 0, none⟩) k (subS l (t.take j)) := by have := HR2.out.recs; rwa [HCL.out, hlen] at this
      refine (index_means 43 #[.pointer (some ⟨bx, 0, none⟩)] (fun x => decide (x.1 = nm t j)) (some ⟨g, 0, none⟩) k c1 (subS l (t.take j)) w2 (by omega) hcf1 hM2 (fun q wr hb _ => less1_any (nm (subS l (t.take j)) q, am (subS l (t.take j)) q) bx (nm t j) wr (Below.cell_of hb x0))).mono ?_
      rintro e w3 ⟨rfl, hb3⟩
      have HB3 := Lib.hid (HB2.out.trans (hb3.mono HB2.out.size))
      have HR3 := Lib.hid (HR2.out.below hb3)
      have HX3 := Lib.hid (HX.out.step hb3)
      rw [show firstAt (fun k_1 => decide ((nm (subS l (List.take j t)) k_1, am (subS l (List.take j t)) k_1).fst = nm t j)) 0 k = i from HFI.out]
      clear hb3 hM2 x0 HB2 HR2 HX
      have hcl : i < (subS l (t.take j)).length := by rw [HCL.out]; exact hi
      obtain ⟨_, c1⟩ := RecRow.at HR3.out i hcl
      rw [HAI.out] at c1
      have f1 := HR3.out.free (i * 2 + 1)
      have x1 := HX3.out.c1
      have HN : Hid (RecRow MeanE (w3.setCell ⟨g, i * 2 + 1, none⟩ (.int .i64 (am l i - am t j))) g 46 (subS l (t.take (j + 1)))) := by
        have := HR3.out.put i 1 (nm l i, am l i - am t j) (.int .i64 (am l i - am t j)) hcl (by omega) (fun q hq => by
          match q, hq with
          | 0, _ => rw [mean_c0 i hcl, HNI.out]; rfl
          | 1, _ => rfl)
        show RecRow _ _ _ _ _
        rw [HSN.out, HAI.out]
        exact this
      have HBN : Hid (Below w.heap.size w (w3.setCell ⟨g, i * 2 + 1, none⟩ (.int .i64 (am l i - am t j)))) := HB3.out.setCell (by show w.heap.size ≤ g; omega) _
      have HL2 : Hid ((subS l (t.take (j + 1))).length = k) := by show _ = _; rw [subS_len, hlen]
      clear HR3 HX3 HFI HAI HSN HNI HCL hcl
      go_upto_region 6 with fail
      go_region
      go_wp2_with fail
      go_roundw
      case rel => exact ⟨j + 1, by go_num, hlt, HBN.out.drew, by rw [← hlen, subS_len], fun _ => ⟨g, rfl, hg, HN.out.drewN 1⟩⟩
      case measure => simp [intOf]; omega
    · have hj' : j = m := by omega
      subst hj'
      have hke : subS l (t.take j) = subS l t := by rw [List.take_of_length_le (by omega)]
      rw [hke] at HO
      have HK := Lib.hid (keep_sub HP.out HG.out)
      by_cases hz : k = 0
      · subst hz
        have hl0 : l = [] := List.length_eq_zero_iff.mp hlen
        go_wp2_with fail
        refine (delete_nil la c1 wr).mono ?_
        rintro e w3 ⟨rfl, hb3⟩
        have HB3 := Lib.hid (HB.out.trans (hb3.mono HB.out.size))
        clear hb3
        go_wp2_with fail
        go_ret
        exact ⟨la, 0, c1, rfl, HB3.out, by rw [hl0]; rfl, fun h => absurd h (Nat.lt_irrefl _)⟩
      · obtain ⟨g, rfl, hg, hr⟩ := HO.out.2 (by omega)
        have hsl : (subS l t).length = k := by rw [subS_len, hlen]
        have HR := Lib.hid hr
        clear hr
        go_wp2_with fail
        refine (delete_means g k c1 (subS l t) wr (by omega) hkc hsl HR.out).mono ?_
        rintro e w3 ⟨c3, rfl, hgr, hr3⟩
        have HB3 := Lib.hid (HB.out.grown hgr (by have := HB.out.size; omega) (fun q hq => by cases hq; exact hg))
        rw [HK.out] at hr3 ⊢
        have HR3 := Lib.hid hr3
        clear hgr hr3
        go_wp2_with fail
        go_ret
        exact ⟨_, _, c3, rfl, HB3.out, rfl, fun _ => ⟨g, rfl, hg, HR3.out⟩⟩
end Go.Proofs.YtgpmhaeiccljaaaDoor
