/- merge: foyerref38.add: the walk. -/
import Derived.Test.YtpmoelkblngamaaQMMR35
import Derived.Test.YtpmoelkblngamaaQMMR37

namespace Go.Proofs.Ytpmoelkblngamaa
open Go.RowKit Go.IntWalk Go.Maps Go.WideMaps

/-- A slice that reads as some blames. -/
def Blms (w : World) (v : Value) (l : List Blm) : Prop := ∃ la c, v = .slice la l.length c ∧ Recs BlmE w la l.length l ∧ (la = none → c = 0)
theorem Blms.nil (w : World) : Blms w (.slice none 0 0) [] := ⟨none, 0, rfl, Recs.none w, fun _ => rfl⟩
theorem blms_row {w : World} {g : Nat} {l : List Blm} (h : RecRow BlmE w g 48 l) : Blms w (.slice (some ⟨g, 0, none⟩) l.length l.length) l := ⟨_, _, rfl, h.recs, fun e => by cases e⟩

theorem run_append_blms {w : World} {base n : Nat} {v u : Value} {xs l : List Blm} (ty : TypeId) (hown : w.ownsRow base 48 6 v n (flat BlmE xs)) (hu : Blms w u l) (h63 : n + l.length ≤ 1000000) (hbase : base ≤ w.heap.size) :
    ∃ v' w', (Builtin.append_ #[31, 31] ty #[v, u]).run Try.prog w = .ok v' w' ∧ w'.ownsRow base 48 6 v' (n + l.length) (flat BlmE (xs ++ l)) ∧ w.grownBy w' v.ownBlock ∧ (v'.ownBlock = v.ownBlock ∨ v'.ownBlock = some w.heap.size) := by
  obtain ⟨i, hi, hz, hs, hb⟩ := blm_info
  obtain ⟨la, c, rfl, hr, hc⟩ := hu
  cases la with
  | none =>
    have hl : l.length = 0 := by
      rcases Nat.eq_zero_or_pos l.length with h | h
      · exact h
      · obtain ⟨b, o, e, _⟩ := hr.2 0 h; cases e
    obtain rfl := List.length_eq_zero_iff.mp hl
    rw [hc rfl, List.append_nil]
    exact ⟨v, w, run_append_owned_none w base _ _ _ i 6 Try.underlying31 hi v n _ hown, hown, ⟨rfl, rfl, rfl, Nat.le_refl _, fun _ _ _ => rfl⟩, Or.inl rfl⟩
  | some ad =>
    obtain ⟨v', w', h1, h2, h3, _, h5⟩ := run_append_own_at (P := Try.prog) (w := w) base 31 ty 48 i _ 6 48 Try.underlying31 hi hz hs hb rfl (by decide) v n (flat BlmE xs) hown ad l.length c (flat BlmE l) (by rw [flat_len]) (flat_cells hr) flat_one (by unfold maxLen; omega) (by omega) hbase
    rw [← flat_append] at h2
    exact ⟨v', w', h1, h2, h3, h5⟩

theorem wpList_append_blms {w : World} {ops : Array Oper} {rest : List Oper} {o : Oper} {a : Act} {Q : Exit → Act → World → Prop} (hgd : o.guard = none) (s x : Operand) (ho : o.op = .call { callee := .builtin .append, args := #[s, x], argTypes := #[31, 31] })
    {base n : Nat} {v u : Value} {xs l : List Blm} (hs : a.eval s = v) (hx : a.eval x = u) (hown : w.ownsRow base 48 6 v n (flat BlmE xs)) (hu : Blms w u l) (h63 : n + l.length ≤ 1000000) (hbase : base ≤ w.heap.size)
    (h : ∀ v' w', w'.ownsRow base 48 6 v' (n + l.length) (flat BlmE (xs ++ l)) → w.grownBy w' v.ownBlock → (v'.ownBlock = v.ownBlock ∨ v'.ownBlock = some w.heap.size) → wpList Try.prog ops Q rest (a.put o.dst v') w') : wpList Try.prog ops Q (o :: rest) a w := by
  obtain ⟨v', w', hr, h1, h2, h3⟩ := run_append_blms o.type hown hu h63 hbase
  exact Lib.wpList_append_run w hgd s x _ _ ho v u hs hx v' w' hr (h v' w' h1 h2 h3)

/-- What add returns: the list with the blame, in order, once. -/
def AddPost (B : Nat) (L : List Blm) (v : Value) (w : World) (e : Ending) (w' : World) : Prop := ∃ v', e = .returned v' ∧ w'.ownsRow B 48 6 v' L.length (flat BlmE L) ∧ w.grownBy w' v.ownBlock

set_option maxRecDepth 100000 in
set_option maxHeartbeats 6400000 in
theorem add_any (w : World) (v : Value) (B : Nat) (O : List Blm) (x : Blm) (hv : w.ownsRow B 48 6 v O.length (flat BlmE O)) (hB : B ≤ w.heap.size) (hO : O.length ≤ 900000) (hst : Strict KB O) :
    Calls Try.prog 45 #[v, .agg #[.int .i64 x.kind, .int .i64 x.serial, .int .i64 x.gate, .int .i64 x.number, .int .i64 x.other, .int .i64 x.count]] w (AddPost B (insK KB x O) v w) := by
  have HST := Lib.hid hst
  obtain ⟨oa, oc, rfl, hcap, _, hoa, hor⟩ := row_slice hv
  have hA := Joins.below_alloc1 w (.cells #[.int .i64 x.kind, .int .i64 x.serial, .int .i64 x.gate, .int .i64 x.number, .int .i64 x.other, .int .i64 x.count] 48)
  have HGX : Hid ((w.alloc (.cells #[.int .i64 x.kind, .int .i64 x.serial, .int .i64 x.gate, .int .i64 x.number, .int .i64 x.other, .int .i64 x.count] 48)).heap[w.heap.size]? = some (.cells #[.int .i64 x.kind, .int .i64 x.serial, .int .i64 x.gate, .int .i64 x.number, .int .i64 x.other, .int .i64 x.count] 48 (0, 0))) := World.alloc_heap_new w _
  have HRO := Lib.hid (row_of_heap hv fun r hr => hA.block r (hv.lt r hr).2)
  have HOR := Lib.hid (hor.below hA)
  have HOA := Lib.hid hoa
  have HB := Lib.hid hA
  have HBB := Lib.hid hB
  clear hv hor hoa hA hst hB
  go_enter Try.func45, Try.ntmps45
  go_upto_region 1 with fail
  generalize w.alloc (.cells #[.int .i64 x.kind, .int .i64 x.serial, .int .i64 x.gate, .int .i64 x.number, .int .i64 x.other, .int .i64 x.count] 48) = w0 at *
  obtain ⟨gx, hgx⟩ : ∃ g, g = w.heap.size := ⟨_, rfl⟩
  rw [← hgx] at HGX ⊢
  clear hgx
  have HXC : Hid (∀ w' : World, Below w0.heap.size w0 w' → w'.cell? ⟨gx, 0, none⟩ = some (.int .i64 x.kind) ∧ w'.cell? ⟨gx, 1, none⟩ = some (.int .i64 x.serial) ∧ w'.cell? ⟨gx, 2, none⟩ = some (.int .i64 x.gate) ∧ w'.cell? ⟨gx, 3, none⟩ = some (.int .i64 x.number) ∧ w'.cell? ⟨gx, 4, none⟩ = some (.int .i64 x.other) ∧ w'.cell? ⟨gx, 5, none⟩ = some (.int .i64 x.count)) := fun w' hb =>
    ⟨Below.cell_of hb (cell_of_row (j := 0) _ _ _ _ _ HGX.out), Below.cell_of hb (cell_of_row (j := 1) _ _ _ _ _ HGX.out), Below.cell_of hb (cell_of_row (j := 2) _ _ _ _ _ HGX.out), Below.cell_of hb (cell_of_row (j := 3) _ _ _ _ _ HGX.out), Below.cell_of hb (cell_of_row (j := 4) _ _ _ _ _ HGX.out), Below.cell_of hb (cell_of_row (j := 5) _ _ _ _ _ HGX.out)⟩
  go_wp2_with fail
  go_loopw [5] (fun v5 wx => ∃ p : Nat, v5 = .int .i64 p ∧ p ≤ O.length ∧ Hid (∀ j (hj : j < O.length), p ≤ j → KLt KB x O[j]) ∧ Hid (Below w0.heap.size w0 wx)) (fun v5 _ => (intOf v5).toNat)
  case atStart => exact ⟨O.length, rfl, Nat.le_refl _, fun j hj hpj => by omega, Below.refl _ _⟩
  case round =>
    obtain ⟨p, rfl, hp, HBEF, HBr⟩ := hrel
    obtain ⟨t, ht⟩ : ∃ t : Bool, t = @decide (∃ y, (0 < p ∧ O[p - 1]? = some y) ∧ KLt KB x y) (Classical.propDecidable _) := ⟨_, rfl⟩
    have HT := Lib.hid ht
    clear ht
    go_upto_region 2 with fail
    go_cut [19] (fun v19 wx => v19 = .bool t ∧ Hid (Below wr.heap.size wr wx))
    case rest =>
      obtain ⟨rfl, HBm⟩ := hcut
      have HBn := Lib.hid (HBr.out.trans (HBm.out.mono HBr.out.size))
      clear HBm HBr
      cases t
      · have HSTOP : Hid (∀ q, q + 1 = p → ∃ y, O[q]? = some y ∧ ¬ KLt KB x y) := fun q hq => by
          have h1 : q < O.length := by omega
          refine ⟨O[q], List.getElem?_eq_getElem h1, fun hk => ?_⟩
          have := HT.out
          rw [eq_comm, decide_eq_false_iff_not] at this
          exact this ⟨O[q], ⟨by omega, by rw [show p - 1 = q from by omega]; exact List.getElem?_eq_getElem h1⟩, hk⟩
        have HIK := Lib.hid (insK_at KB HST.out hp HBEF.out HSTOP.out)
        clear HT HBEF HSTOP
        generalize wc = wa at *
        obtain ⟨e, he⟩ : ∃ e : Bool, e = decide (0 < p ∧ O[p - 1]? = some x) := ⟨_, rfl⟩
        have HE := Lib.hid he
        clear he
        go_upto_region 4 with fail
        go_cut [32] (fun v32 wx => v32 = .bool e ∧ Hid (Below wa.heap.size wa wx))
        case rest =>
          obtain ⟨rfl, HBm⟩ := hcut
          have HBk := Lib.hid (HBn.out.trans (HBm.out.mono HBn.out.size))
          clear HBm HBn
          have HROk := Lib.hid (row_of_heap HRO.out fun r hr => HBk.out.block r (HRO.out.lt r hr).2)
          have HBw := Lib.hid (HB.out.trans (HBk.out.mono HB.out.size))
          cases e
          · have HIN : Hid (insK KB x O = O.take p ++ x :: O.drop p) := by
              refine HIK.out.2 fun q hq hx => ?_
              have := HE.out
              rw [eq_comm, decide_eq_false_iff_not] at this
              exact this ⟨by omega, by rw [show p - 1 = q from by omega]; exact hx⟩
            clear HIK HE
            obtain ⟨d0, d1, d2, d3, d4, d5⟩ := HXC.out _ HBk.out
            have HORk := Lib.hid (HOR.out.below HBk.out)
            have hbse := HBw.out.size
            have HBB9 := Lib.hid (Nat.le_trans HBB.out hbse)
            generalize wc = w9 at *
            have HLE : Hid ((O.take p ++ x :: O.drop p).length = 0 + (O.take p).length + 1 + (O.drop p).length) := by show _ = _; rw [List.length_append, List.length_cons]; omega
            have HFE : Hid ([] ++ O.take p ++ [x] ++ O.drop p = O.take p ++ x :: O.drop p) := by show _ = _; simp
            by_cases hpl : p = O.length
            · subst hpl
              have HI2 : Hid (insK KB x O = O ++ [x]) := by
                show _ = _
                rw [HIN.out, List.take_length, List.drop_length]
              clear HIN HLE HFE
              go_wp2_with (at_builtin; refine wpList_append_blms rfl (.tmp 38) (.tmp 40) rfl rfl rfl (row_alloc HROk.out _) (blms_row (l := [x]) (rec_new2 _ (World.alloc_heap_new w9 _))) (by show O.length + 1 ≤ _; omega) (Nat.le_trans HBB9.out (Joins.below_alloc1 w9 _).size) ?_; intro v12 w12 ho12 hg12 _; have HO12 := Lib.hid ho12; have HG12 := Lib.hid (grown_trans (grown_below (HBw.out.trans ((Joins.below_alloc1 w9 _).mono hbse)) _) hg12); clear ho12 hg12)
              go_ret
              exact ⟨_, rfl, by rw [HI2.out, List.length_append]; exact HO12.out, HG12.out⟩
            · have hpl2 : ((p : Int) == (O.length : Int)) = false := by simp; omega
              have HB9 := Lib.hid (Joins.below_alloc1 w9 (.cells #[] 48))
              have HV9 : Hid (World.ownsRow (w9.alloc (.cells #[] 48)) w9.heap.size 48 6 (.slice (some ⟨w9.heap.size, 0, none⟩) 0 0) 0 (flat BlmE [])) := ⟨rfl, Or.inr ⟨w9.heap.size, 0, #[], rfl, Nat.le_refl _, World.alloc_heap_new w9 _, Nat.le_refl _, by decide, rfl, rfl⟩⟩
              have hlt1 : (O.take p).length = p := by rw [List.length_take]; omega
              have hld1 : (O.drop p).length = O.length - p := List.length_drop ..
              obtain ⟨g, rfl⟩ : ∃ g, oa = some ⟨g, 0, none⟩ := HOA.out.resolve_left (fun h => by have := h.2.1; omega)
              have HS1 : Hid (∀ wx, Below w9.heap.size w9 wx → Blms wx (.slice (some ⟨g, 0, none⟩) p oc) (O.take p)) := fun wx hb => ⟨_, _, by rw [hlt1], by rw [hlt1]; exact recs_take2 (HORk.out.below hb) p hp, fun e => by cases e⟩
              have HS2 : Hid (∀ wx, Below w9.heap.size w9 wx → Blms wx (.slice (if oc = p then some ⟨g, 0, none⟩ else some ⟨g, p * 6, none⟩) (O.length - p) (oc - p)) (O.drop p)) := fun wx hb => ⟨_, _, by rw [hld1], by rw [hld1]; exact recs_rest2 (HORk.out.below hb) p hp hcap, fun e => by split at e <;> cases e⟩
              have HS3 : Hid (∀ wx, Below w9.heap.size w9 wx → Blms wx (.slice (some ⟨g, p * 6, none⟩) (O.length - p) (oc - p)) (O.drop p)) := fun wx hb => by
                have := HS2.out wx hb
                rw [if_neg (by omega)] at this
                exact this
              have hpc : p ≤ oc := by omega
              have hpi : (p : Int) ≤ oc := by omega
              go_upto_region 8 with fail
              go_wp2_with (first | (at_builtin; refine wpList_append_blms rfl (.tmp 42) (.tmp 45) rfl rfl rfl HV9.out (HS1.out _ HB9.out) (by omega) HB9.out.size ?_; intro v10 w10 ho10 hg10 _; have HO10 := Lib.hid ho10; have HB10 : Hid (Below w9.heap.size w9 w10) := (HB9.out.grown hg10 HB9.out.size (fun k e => (HV9.out.lt k e).1)); obtain ⟨k0, k1, k2, k3, k4, k5⟩ := HXC.out _ (HBk.out.trans (HB10.out.mono HBk.out.size)); clear ho10 hg10) | (at_builtin; refine wpList_append_blms rfl (.tmp 47) (.tmp 49) rfl rfl rfl (row_alloc HO10.out _) (blms_row (l := [x]) (rec_new2 _ (World.alloc_heap_new w10 _))) (by show 0 + (List.take _ _).length + 1 ≤ _; omega) (HB10.out.trans ((Joins.below_alloc1 w10 _).mono HB10.out.size)).size ?_; intro v11 w11 ho11 hg11 _; have HO11 := Lib.hid ho11; have HB11 : Hid (Below w9.heap.size w9 w11) := ((HB10.out.trans ((Joins.below_alloc1 w10 _).mono HB10.out.size)).grown hg11 (HB10.out.trans ((Joins.below_alloc1 w10 _).mono HB10.out.size)).size (fun k e => (HO10.out.lt k e).1)); clear ho11 hg11) | (at_builtin; refine wpList_append_blms rfl (.tmp 51) (.tmp 54) rfl rfl rfl HO11.out (by first | exact HS3.out _ HB11.out | exact HS2.out _ HB11.out) (by show 0 + (List.take _ _).length + 1 + _ ≤ _; omega) HB11.out.size ?_; intro v12 w12 ho12 hg12 _; have HB12 : Hid (Below w.heap.size w w12) := HBw.out.trans ((HB11.out.grown hg12 HB11.out.size (fun k e => (HO11.out.lt k e).1)).mono hbse); have HO12 := Lib.hid (row_mono ho12 HBB9.out); clear ho12 hg12))
              go_ret
              exact ⟨_, rfl, by rw [HIN.out, HLE.out, ← HFE.out]; exact HO12.out, grown_below HB12.out _⟩
          · have HIN : Hid (insK KB x O = O) := by
              have := HE.out
              rw [eq_comm, decide_eq_true_eq] at this
              exact HIK.out.1 (p - 1) (by omega) this.2
            clear HIK HE
            go_wp2_with fail
            go_ret
            exact ⟨_, rfl, by rw [HIN.out]; exact HROk.out, grown_below HBw.out _⟩
        by_cases hp0 : p = 0
        · subst hp0
          have HE0 : Hid (e = false) := by show _ = _; rw [HE.out]; simp
          have HKK : Hid (∀ w' : World, Below wa.heap.size wa w' → w'.cell? ⟨gx, 0, none⟩ = some (.int .i64 x.kind) ∧ w'.cell? ⟨gx, 1, none⟩ = some (.int .i64 x.serial) ∧ w'.cell? ⟨gx, 2, none⟩ = some (.int .i64 x.gate) ∧ w'.cell? ⟨gx, 3, none⟩ = some (.int .i64 x.number) ∧ w'.cell? ⟨gx, 4, none⟩ = some (.int .i64 x.other) ∧ w'.cell? ⟨gx, 5, none⟩ = some (.int .i64 x.count)) := fun w' hb => HXC.out w' (HBn.out.trans (hb.mono HBn.out.size))
          refine wp_region_held_drew (S := fun w' => w'.cell? ⟨gx, 0, none⟩ = some (.int .i64 x.kind) ∧ w'.cell? ⟨gx, 1, none⟩ = some (.int .i64 x.serial) ∧ w'.cell? ⟨gx, 2, none⟩ = some (.int .i64 x.gate) ∧ w'.cell? ⟨gx, 3, none⟩ = some (.int .i64 x.number) ∧ w'.cell? ⟨gx, 4, none⟩ = some (.int .i64 x.other) ∧ w'.cell? ⟨gx, 5, none⟩ = some (.int .i64 x.count)) (by kernel_rfl) (HKK.out wa (Below.refl _ _)) (fun hHeld => ?_)
          refine take_at (i := 0) (v := ?_) 22 rfl rfl (by kernel_rfl) (by kernel_rfl) (by kernel_rfl) (fun _ _ _ h => h) (Or.inl ⟨by rfl, ?_⟩) (by assumption) ?_
          rotate_left
          · intro w hSw; go_simp <;> with_reducible rfl
          try simp only [Act.put, List.setIfInBounds_toArray, List.set_cons_zero, List.set_cons_succ]
          refine take_at (i := 1) (v := ?_) 23 rfl rfl (by kernel_rfl) (by kernel_rfl) (by kernel_rfl) (fun _ _ _ h => h) (Or.inl ⟨by rfl, ?_⟩) (by assumption) ?_
          rotate_left
          · intro w hSw; go_simp <;> with_reducible rfl
          try simp only [Act.put, List.setIfInBounds_toArray, List.set_cons_zero, List.set_cons_succ]
          refine take_at (i := 2) (v := ?_) 24 rfl rfl (by kernel_rfl) (by kernel_rfl) (by kernel_rfl) (fun _ _ _ h => h) (Or.inl ⟨by rfl, ?_⟩) (by assumption) ?_
          rotate_left
          · intro w hSw; go_simp <;> with_reducible rfl
          try simp only [Act.put, List.setIfInBounds_toArray, List.set_cons_zero, List.set_cons_succ]
          refine take_at (i := 3) (v := undef) 25 rfl rfl (by kernel_rfl) (by kernel_rfl) (by kernel_rfl) (fun _ _ _ h => h) (Or.inr ⟨by rfl, rfl⟩) (by assumption) ?_
          try simp only [Act.put, List.setIfInBounds_toArray, List.set_cons_zero, List.set_cons_succ]
          refine take_at (i := 4) (v := undef) 26 rfl rfl (by kernel_rfl) (by kernel_rfl) (by kernel_rfl) (fun _ _ _ h => h) (Or.inr ⟨by rfl, rfl⟩) (by assumption) ?_
          try simp only [Act.put, List.setIfInBounds_toArray, List.set_cons_zero, List.set_cons_succ]
          refine take_at (i := 5) (v := undef) 27 rfl rfl (by kernel_rfl) (by kernel_rfl) (by kernel_rfl) (fun _ _ _ h => h) (Or.inr ⟨by rfl, rfl⟩) (by assumption) ?_
          try simp only [Act.put, List.setIfInBounds_toArray, List.set_cons_zero, List.set_cons_succ]
          refine take_at (i := 6) (v := undef) 28 rfl rfl (by kernel_rfl) (by kernel_rfl) (by kernel_rfl) (fun _ _ _ h => h) (Or.inr ⟨by rfl, rfl⟩) (by assumption) ?_
          try simp only [Act.put, List.setIfInBounds_toArray, List.set_cons_zero, List.set_cons_succ]
          refine take_at (i := 7) (v := undef) 29 rfl rfl (by kernel_rfl) (by kernel_rfl) (by kernel_rfl) (fun _ _ _ h => h) (Or.inr ⟨by rfl, rfl⟩) (by assumption) ?_
          try simp only [Act.put, List.setIfInBounds_toArray, List.set_cons_zero, List.set_cons_succ]
          refine take_at (i := 8) (v := undef) 30 rfl rfl (by kernel_rfl) (by kernel_rfl) (by kernel_rfl) (fun _ _ _ h => h) (Or.inr ⟨by rfl, rfl⟩) (by assumption) ?_
          try simp only [Act.put, List.setIfInBounds_toArray, List.set_cons_zero, List.set_cons_succ]
          refine take_at (i := 9) (v := undef) 31 rfl rfl (by kernel_rfl) (by kernel_rfl) (by kernel_rfl) (fun _ _ _ h => h) (Or.inr ⟨by rfl, rfl⟩) (by assumption) ?_
          try simp only [Act.put, List.setIfInBounds_toArray, List.set_cons_zero, List.set_cons_succ]
          refine take_at (i := 10) (v := ?_) 32 rfl rfl (by kernel_rfl) (by kernel_rfl) (by kernel_rfl) (fun _ _ _ h => h) (Or.inl ⟨by rfl, ?_⟩) (by assumption) ?_
          rotate_left
          · intro w hSw; go_simp <;> with_reducible rfl
          try simp only [Act.put, List.setIfInBounds_toArray, List.set_cons_zero, List.set_cons_succ]
          refine wpAnyH_done (by kernel_rfl) ?_ _
          go_wp2_with fail
          go_meet
          case rel => exact ⟨by rw [HE0.out], (Below.refl _ wa).drew⟩
        · obtain ⟨q, rfl⟩ : ∃ q, p = q + 1 := ⟨p - 1, by omega⟩
          have hq : q < O.length := by omega
          obtain ⟨b2, o2, rfl, c0, c1, c2, c3, c4, c5⟩ := blm_at (HOR.out.below HBn.out) q hq hq
          have HE1 : Hid (e = decide (O[q] = x)) := by
            show _ = _
            rw [HE.out]
            have : O[q + 1 - 1]? = some O[q] := by rw [Nat.add_sub_cancel]; exact List.getElem?_eq_getElem hq
            rw [this]
            simp
          generalize O[q] = y at *
          have HKK : Hid (∀ w' : World, Below wa.heap.size wa w' → w'.cell? ⟨gx, 0, none⟩ = some (.int .i64 x.kind) ∧ w'.cell? ⟨gx, 1, none⟩ = some (.int .i64 x.serial) ∧ w'.cell? ⟨gx, 2, none⟩ = some (.int .i64 x.gate) ∧ w'.cell? ⟨gx, 3, none⟩ = some (.int .i64 x.number) ∧ w'.cell? ⟨gx, 4, none⟩ = some (.int .i64 x.other) ∧ w'.cell? ⟨gx, 5, none⟩ = some (.int .i64 x.count) ∧ w'.cell? ⟨b2, o2 + q * 6, none⟩ = some (.int .i64 y.kind) ∧ w'.cell? ⟨b2, o2 + q * 6 + 1, none⟩ = some (.int .i64 y.serial) ∧ w'.cell? ⟨b2, o2 + q * 6 + 2, none⟩ = some (.int .i64 y.gate) ∧ w'.cell? ⟨b2, o2 + q * 6 + 3, none⟩ = some (.int .i64 y.number) ∧ w'.cell? ⟨b2, o2 + q * 6 + 4, none⟩ = some (.int .i64 y.other) ∧ w'.cell? ⟨b2, o2 + q * 6 + 5, none⟩ = some (.int .i64 y.count)) := fun w' hb => by
            obtain ⟨d0, d1, d2, d3, d4, d5⟩ := HXC.out w' (HBn.out.trans (hb.mono HBn.out.size))
            exact ⟨d0, d1, d2, d3, d4, d5, Below.cell_of hb c0, Below.cell_of hb c1, Below.cell_of hb c2, Below.cell_of hb c3, Below.cell_of hb c4, Below.cell_of hb c5⟩
          clear c0 c1 c2 c3 c4 c5
          have hq0 : (0 : Int) < (q : Int) + 1 := by omega
          have hgd := fun (p q : Operand) (wx : World) => guard_blm .eql p q y x wx
          have heq : ∀ wx, Sem.run Try.prog (binOp .eql 48 (.agg #[.int .i64 y.kind, .int .i64 y.serial, .int .i64 y.gate, .int .i64 y.number, .int .i64 y.other, .int .i64 y.count]) (.agg #[.int .i64 x.kind, .int .i64 x.serial, .int .i64 x.gate, .int .i64 x.number, .int .i64 x.other, .int .i64 x.count])) wx = .ok (.bool e) wx := fun wx => by rw [eql_blm, HE1.out]
          refine wp_region_held_drew (S := fun w' => w'.cell? ⟨gx, 0, none⟩ = some (.int .i64 x.kind) ∧ w'.cell? ⟨gx, 1, none⟩ = some (.int .i64 x.serial) ∧ w'.cell? ⟨gx, 2, none⟩ = some (.int .i64 x.gate) ∧ w'.cell? ⟨gx, 3, none⟩ = some (.int .i64 x.number) ∧ w'.cell? ⟨gx, 4, none⟩ = some (.int .i64 x.other) ∧ w'.cell? ⟨gx, 5, none⟩ = some (.int .i64 x.count) ∧ w'.cell? ⟨b2, o2 + q * 6, none⟩ = some (.int .i64 y.kind) ∧ w'.cell? ⟨b2, o2 + q * 6 + 1, none⟩ = some (.int .i64 y.serial) ∧ w'.cell? ⟨b2, o2 + q * 6 + 2, none⟩ = some (.int .i64 y.gate) ∧ w'.cell? ⟨b2, o2 + q * 6 + 3, none⟩ = some (.int .i64 y.number) ∧ w'.cell? ⟨b2, o2 + q * 6 + 4, none⟩ = some (.int .i64 y.other) ∧ w'.cell? ⟨b2, o2 + q * 6 + 5, none⟩ = some (.int .i64 y.count)) (by kernel_rfl) (HKK.out wa (Below.refl _ _)) (fun hHeld => ?_)
          refine take_at (i := 0) (v := ?_) 22 rfl rfl (by kernel_rfl) (by kernel_rfl) (by kernel_rfl) (fun _ _ _ h => h) (Or.inl ⟨by rfl, ?_⟩) (by assumption) ?_
          rotate_left
          · intro w hSw; go_simp <;> with_reducible rfl
          try simp only [Act.put, List.setIfInBounds_toArray, List.set_cons_zero, List.set_cons_succ]
          refine take_at (i := 1) (v := ?_) 23 rfl rfl (by kernel_rfl) (by kernel_rfl) (by kernel_rfl) (fun _ _ _ h => h) (Or.inl ⟨by rfl, ?_⟩) (by assumption) ?_
          rotate_left
          · intro w hSw; go_simp <;> with_reducible rfl
          try simp only [Act.put, List.setIfInBounds_toArray, List.set_cons_zero, List.set_cons_succ]
          refine take_at (i := 2) (v := ?_) 24 rfl rfl (by kernel_rfl) (by kernel_rfl) (by kernel_rfl) (fun _ _ _ h => h) (Or.inl ⟨by rfl, ?_⟩) (by assumption) ?_
          rotate_left
          · intro w hSw; go_simp <;> with_reducible rfl
          try simp only [Act.put, List.setIfInBounds_toArray, List.set_cons_zero, List.set_cons_succ]
          refine take_at (i := 3) (v := ?_) 25 rfl rfl (by kernel_rfl) (by kernel_rfl) (by kernel_rfl) (fun _ _ _ h => h) (Or.inl ⟨by rfl, ?_⟩) (by assumption) ?_
          rotate_left
          · intro w hSw; go_simp <;> with_reducible rfl
          try simp only [Act.put, List.setIfInBounds_toArray, List.set_cons_zero, List.set_cons_succ]
          refine take_at (i := 4) (v := ?_) 26 rfl rfl (by kernel_rfl) (by kernel_rfl) (by kernel_rfl) (fun _ _ _ h => h) (Or.inl ⟨by rfl, ?_⟩) (by assumption) ?_
          rotate_left
          · intro w hSw; go_simp <;> with_reducible rfl
          try simp only [Act.put, List.setIfInBounds_toArray, List.set_cons_zero, List.set_cons_succ]
          refine take_at (i := 5) (v := .int .i64 (q : Int)) 27 rfl rfl (by kernel_rfl) (by kernel_rfl) (by kernel_rfl) (fun _ _ _ h => h) (Or.inl ⟨by rfl, ?_⟩) (by assumption) ?_
          · intro w' hSw
            go_simp
            exact i64_in _ (by omega)
          try simp only [Act.put, List.setIfInBounds_toArray, List.set_cons_zero, List.set_cons_succ]
          refine take_at (i := 6) (v := ?_) 28 rfl rfl (by kernel_rfl) (by kernel_rfl) (by kernel_rfl) (fun _ _ _ h => h) (Or.inl ⟨by rfl, ?_⟩) (by assumption) ?_
          rotate_left
          · intro w hSw; go_simp <;> with_reducible rfl
          try simp only [Act.put, List.setIfInBounds_toArray, List.set_cons_zero, List.set_cons_succ]
          refine take_at (i := 7) (v := ?_) 29 rfl rfl (by kernel_rfl) (by kernel_rfl) (by kernel_rfl) (fun _ _ _ h => h) (Or.inl ⟨by rfl, ?_⟩) (by assumption) ?_
          rotate_left
          · intro w hSw; go_simp <;> with_reducible rfl
          try simp only [Act.put, List.setIfInBounds_toArray, List.set_cons_zero, List.set_cons_succ]
          refine take_at (i := 8) (v := ?_) 30 rfl rfl (by kernel_rfl) (by kernel_rfl) (by kernel_rfl) (fun _ _ _ h => h) (Or.inl ⟨by rfl, ?_⟩) (by assumption) ?_
          rotate_left
          · intro w hSw; go_simp <;> with_reducible rfl
          try simp only [Act.put, List.setIfInBounds_toArray, List.set_cons_zero, List.set_cons_succ]
          refine take_at (i := 9) (v := ?_) 31 rfl rfl (by kernel_rfl) (by kernel_rfl) (by kernel_rfl) (fun _ _ _ h => h) (Or.inl ⟨by rfl, ?_⟩) (by assumption) ?_
          rotate_left
          · intro w hSw; go_simp <;> with_reducible rfl
          try simp only [Act.put, List.setIfInBounds_toArray, List.set_cons_zero, List.set_cons_succ]
          refine take_at (i := 10) (v := ?_) 32 rfl rfl (by kernel_rfl) (by kernel_rfl) (by kernel_rfl) (fun _ _ _ h => h) (Or.inl ⟨by rfl, ?_⟩) (by assumption) ?_
          rotate_left
          · intro w hSw; go_simp <;> with_reducible rfl
          try simp only [Act.put, List.setIfInBounds_toArray, List.set_cons_zero, List.set_cons_succ]
          refine wpAnyH_done (by kernel_rfl) ?_ _
          go_wp2_with fail
          go_meet
          case rel => exact ⟨rfl, (Below.refl _ wa).drew⟩
      · have hex : ∃ y, (0 < p ∧ O[p - 1]? = some y) ∧ KLt KB x y := @of_decide_eq_true _ (Classical.propDecidable _) HT.out.symm
        have hp0 : 0 < p := by obtain ⟨_, ⟨h, _⟩, _⟩ := hex; exact h
        obtain ⟨q, rfl⟩ : ∃ q, p = q + 1 := ⟨p - 1, by omega⟩
        have HB2 : Hid (∀ j (hj : j < O.length), q ≤ j → KLt KB x O[j]) := fun j hj hqj => by
          by_cases e : j = q
          · obtain ⟨y, ⟨_, h1⟩, h2⟩ := hex
            subst e
            rw [Nat.add_sub_cancel, List.getElem?_eq_getElem hj] at h1
            cases h1
            exact h2
          · exact HBEF.out j hj (by omega)
        clear hex HT HBEF
        go_wp2_with fail
        go_roundw
        case rel => exact ⟨q, by go_num, by omega, HB2.out, HBn.out⟩
        case measure => (simp [intOf] <;> omega)
    by_cases hp0 : p = 0
    · subst hp0
      have HT0 : Hid (t = false) := by show _ = _; rw [HT.out, decide_eq_false_iff_not]; rintro ⟨_, ⟨h, _⟩, _⟩; omega
      have HKK : Hid (∀ w' : World, Below wr.heap.size wr w' → w'.cell? ⟨gx, 0, none⟩ = some (.int .i64 x.kind) ∧ w'.cell? ⟨gx, 1, none⟩ = some (.int .i64 x.serial) ∧ w'.cell? ⟨gx, 2, none⟩ = some (.int .i64 x.gate) ∧ w'.cell? ⟨gx, 3, none⟩ = some (.int .i64 x.number) ∧ w'.cell? ⟨gx, 4, none⟩ = some (.int .i64 x.other) ∧ w'.cell? ⟨gx, 5, none⟩ = some (.int .i64 x.count)) := fun w' hb => HXC.out w' (HBr.out.trans (hb.mono HBr.out.size))
      refine wp_region_held_drew (S := fun w' => w'.cell? ⟨gx, 0, none⟩ = some (.int .i64 x.kind) ∧ w'.cell? ⟨gx, 1, none⟩ = some (.int .i64 x.serial) ∧ w'.cell? ⟨gx, 2, none⟩ = some (.int .i64 x.gate) ∧ w'.cell? ⟨gx, 3, none⟩ = some (.int .i64 x.number) ∧ w'.cell? ⟨gx, 4, none⟩ = some (.int .i64 x.other) ∧ w'.cell? ⟨gx, 5, none⟩ = some (.int .i64 x.count)) (by kernel_rfl) (HKK.out wr (Below.refl _ _)) (fun hHeld => ?_)
      refine take_at (i := 0) (v := ?_) 9 rfl rfl (by kernel_rfl) (by kernel_rfl) (by kernel_rfl) (fun _ _ _ h => h) (Or.inl ⟨by rfl, ?_⟩) (by assumption) ?_
      rotate_left
      · intro w hSw; go_simp <;> with_reducible rfl
      try simp only [Act.put, List.setIfInBounds_toArray, List.set_cons_zero, List.set_cons_succ]
      refine take_at (i := 1) (v := ?_) 10 rfl rfl (by kernel_rfl) (by kernel_rfl) (by kernel_rfl) (fun _ _ _ h => h) (Or.inl ⟨by rfl, ?_⟩) (by assumption) ?_
      rotate_left
      · intro w hSw; go_simp <;> with_reducible rfl
      try simp only [Act.put, List.setIfInBounds_toArray, List.set_cons_zero, List.set_cons_succ]
      refine take_at (i := 2) (v := ?_) 11 rfl rfl (by kernel_rfl) (by kernel_rfl) (by kernel_rfl) (fun _ _ _ h => h) (Or.inl ⟨by rfl, ?_⟩) (by assumption) ?_
      rotate_left
      · intro w hSw; go_simp <;> with_reducible rfl
      try simp only [Act.put, List.setIfInBounds_toArray, List.set_cons_zero, List.set_cons_succ]
      refine take_at (i := 3) (v := undef) 12 rfl rfl (by kernel_rfl) (by kernel_rfl) (by kernel_rfl) (fun _ _ _ h => h) (Or.inr ⟨by rfl, rfl⟩) (by assumption) ?_
      try simp only [Act.put, List.setIfInBounds_toArray, List.set_cons_zero, List.set_cons_succ]
      refine take_at (i := 4) (v := undef) 13 rfl rfl (by kernel_rfl) (by kernel_rfl) (by kernel_rfl) (fun _ _ _ h => h) (Or.inr ⟨by rfl, rfl⟩) (by assumption) ?_
      try simp only [Act.put, List.setIfInBounds_toArray, List.set_cons_zero, List.set_cons_succ]
      refine take_at (i := 5) (v := undef) 14 rfl rfl (by kernel_rfl) (by kernel_rfl) (by kernel_rfl) (fun _ _ _ h => h) (Or.inr ⟨by rfl, rfl⟩) (by assumption) ?_
      try simp only [Act.put, List.setIfInBounds_toArray, List.set_cons_zero, List.set_cons_succ]
      refine take_at (i := 6) (v := undef) 15 rfl rfl (by kernel_rfl) (by kernel_rfl) (by kernel_rfl) (fun _ _ _ h => h) (Or.inr ⟨by rfl, rfl⟩) (by assumption) ?_
      try simp only [Act.put, List.setIfInBounds_toArray, List.set_cons_zero, List.set_cons_succ]
      refine take_at (i := 7) (v := undef) 16 rfl rfl (by kernel_rfl) (by kernel_rfl) (by kernel_rfl) (fun _ _ _ h => h) (Or.inr ⟨by rfl, rfl⟩) (by assumption) ?_
      try simp only [Act.put, List.setIfInBounds_toArray, List.set_cons_zero, List.set_cons_succ]
      refine take_at (i := 8) (v := undef) 17 rfl rfl (by kernel_rfl) (by kernel_rfl) (by kernel_rfl) (fun _ _ _ h => h) (Or.inr ⟨by rfl, rfl⟩) (by assumption) ?_
      try simp only [Act.put, List.setIfInBounds_toArray, List.set_cons_zero, List.set_cons_succ]
      refine take_at (i := 9) (v := undef) 18 rfl rfl (by kernel_rfl) (by kernel_rfl) (by kernel_rfl) (fun _ _ _ h => h) (Or.inr ⟨by rfl, rfl⟩) (by assumption) ?_
      try simp only [Act.put, List.setIfInBounds_toArray, List.set_cons_zero, List.set_cons_succ]
      refine take_at (i := 10) (v := ?_) 19 rfl rfl (by kernel_rfl) (by kernel_rfl) (by kernel_rfl) (fun _ _ _ h => h) (Or.inl ⟨by rfl, ?_⟩) (by assumption) ?_
      rotate_left
      · intro w hSw; go_simp <;> with_reducible rfl
      try simp only [Act.put, List.setIfInBounds_toArray, List.set_cons_zero, List.set_cons_succ]
      refine wpAnyH_done (by kernel_rfl) ?_ _
      go_wp2_with fail
      go_meet
      case rel => exact ⟨by rw [HT0.out], (Below.refl _ wr).drew⟩
    · obtain ⟨q, rfl⟩ : ∃ q, p = q + 1 := ⟨p - 1, by omega⟩
      have hq : q < O.length := by omega
      obtain ⟨b2, o2, rfl, c0, c1, c2, c3, c4, c5⟩ := blm_at (HOR.out.below HBr.out) q hq hq
      have HT1 : Hid (t = decide (KLt KB x O[q])) := by
        show _ = _
        rw [HT.out]
        have : O[q + 1 - 1]? = some O[q] := by rw [Nat.add_sub_cancel]; exact List.getElem?_eq_getElem hq
        rw [this]
        refine decide_eq_decide.mpr ⟨?_, fun hk => ⟨_, ⟨by omega, rfl⟩, hk⟩⟩
        rintro ⟨y, ⟨_, h1⟩, h2⟩
        cases h1
        exact h2
      generalize O[q] = y at *
      have HKK : Hid (∀ w' : World, Below wr.heap.size wr w' → w'.cell? ⟨gx, 0, none⟩ = some (.int .i64 x.kind) ∧ w'.cell? ⟨gx, 1, none⟩ = some (.int .i64 x.serial) ∧ w'.cell? ⟨gx, 2, none⟩ = some (.int .i64 x.gate) ∧ w'.cell? ⟨gx, 3, none⟩ = some (.int .i64 x.number) ∧ w'.cell? ⟨gx, 4, none⟩ = some (.int .i64 x.other) ∧ w'.cell? ⟨gx, 5, none⟩ = some (.int .i64 x.count) ∧ w'.cell? ⟨b2, o2 + q * 6, none⟩ = some (.int .i64 y.kind) ∧ w'.cell? ⟨b2, o2 + q * 6 + 1, none⟩ = some (.int .i64 y.serial) ∧ w'.cell? ⟨b2, o2 + q * 6 + 2, none⟩ = some (.int .i64 y.gate) ∧ w'.cell? ⟨b2, o2 + q * 6 + 3, none⟩ = some (.int .i64 y.number) ∧ w'.cell? ⟨b2, o2 + q * 6 + 4, none⟩ = some (.int .i64 y.other) ∧ w'.cell? ⟨b2, o2 + q * 6 + 5, none⟩ = some (.int .i64 y.count)) := fun w' hb => by
        obtain ⟨d0, d1, d2, d3, d4, d5⟩ := HXC.out w' (HBr.out.trans (hb.mono HBr.out.size))
        exact ⟨d0, d1, d2, d3, d4, d5, Below.cell_of hb c0, Below.cell_of hb c1, Below.cell_of hb c2, Below.cell_of hb c3, Below.cell_of hb c4, Below.cell_of hb c5⟩
      clear c0 c1 c2 c3 c4 c5
      have hq0 : (0 : Int) < (q : Int) + 1 := by omega
      refine wp_region_held_drew (S := fun w' => w'.cell? ⟨gx, 0, none⟩ = some (.int .i64 x.kind) ∧ w'.cell? ⟨gx, 1, none⟩ = some (.int .i64 x.serial) ∧ w'.cell? ⟨gx, 2, none⟩ = some (.int .i64 x.gate) ∧ w'.cell? ⟨gx, 3, none⟩ = some (.int .i64 x.number) ∧ w'.cell? ⟨gx, 4, none⟩ = some (.int .i64 x.other) ∧ w'.cell? ⟨gx, 5, none⟩ = some (.int .i64 x.count) ∧ w'.cell? ⟨b2, o2 + q * 6, none⟩ = some (.int .i64 y.kind) ∧ w'.cell? ⟨b2, o2 + q * 6 + 1, none⟩ = some (.int .i64 y.serial) ∧ w'.cell? ⟨b2, o2 + q * 6 + 2, none⟩ = some (.int .i64 y.gate) ∧ w'.cell? ⟨b2, o2 + q * 6 + 3, none⟩ = some (.int .i64 y.number) ∧ w'.cell? ⟨b2, o2 + q * 6 + 4, none⟩ = some (.int .i64 y.other) ∧ w'.cell? ⟨b2, o2 + q * 6 + 5, none⟩ = some (.int .i64 y.count)) (by kernel_rfl) (HKK.out wr (Below.refl _ _)) (fun hHeld => ?_)
      refine take_at (i := 0) (v := ?_) 9 rfl rfl (by kernel_rfl) (by kernel_rfl) (by kernel_rfl) (fun _ _ _ h => h) (Or.inl ⟨by rfl, ?_⟩) (by assumption) ?_
      rotate_left
      · intro w hSw; go_simp <;> with_reducible rfl
      try simp only [Act.put, List.setIfInBounds_toArray, List.set_cons_zero, List.set_cons_succ]
      refine take_at (i := 1) (v := ?_) 10 rfl rfl (by kernel_rfl) (by kernel_rfl) (by kernel_rfl) (fun _ _ _ h => h) (Or.inl ⟨by rfl, ?_⟩) (by assumption) ?_
      rotate_left
      · intro w hSw; go_simp <;> with_reducible rfl
      try simp only [Act.put, List.setIfInBounds_toArray, List.set_cons_zero, List.set_cons_succ]
      refine take_at (i := 2) (v := ?_) 11 rfl rfl (by kernel_rfl) (by kernel_rfl) (by kernel_rfl) (fun _ _ _ h => h) (Or.inl ⟨by rfl, ?_⟩) (by assumption) ?_
      rotate_left
      · intro w hSw; go_simp <;> with_reducible rfl
      try simp only [Act.put, List.setIfInBounds_toArray, List.set_cons_zero, List.set_cons_succ]
      refine take_at (i := 3) (v := ?_) 12 rfl rfl (by kernel_rfl) (by kernel_rfl) (by kernel_rfl) (fun _ _ _ h => h) (Or.inl ⟨by rfl, ?_⟩) (by assumption) ?_
      rotate_left
      · intro w hSw; go_simp <;> with_reducible rfl
      try simp only [Act.put, List.setIfInBounds_toArray, List.set_cons_zero, List.set_cons_succ]
      refine take_at (i := 4) (v := ?_) 13 rfl rfl (by kernel_rfl) (by kernel_rfl) (by kernel_rfl) (fun _ _ _ h => h) (Or.inl ⟨by rfl, ?_⟩) (by assumption) ?_
      rotate_left
      · intro w hSw; go_simp <;> with_reducible rfl
      try simp only [Act.put, List.setIfInBounds_toArray, List.set_cons_zero, List.set_cons_succ]
      refine take_at (i := 5) (v := ?_) 14 rfl rfl (by kernel_rfl) (by kernel_rfl) (by kernel_rfl) (fun _ _ _ h => h) (Or.inl ⟨by rfl, ?_⟩) (by assumption) ?_
      rotate_left
      · intro w hSw; go_simp <;> with_reducible rfl
      try simp only [Act.put, List.setIfInBounds_toArray, List.set_cons_zero, List.set_cons_succ]
      refine take_at (i := 6) (v := .int .i64 (q : Int)) 15 rfl rfl (by kernel_rfl) (by kernel_rfl) (by kernel_rfl) (fun _ _ _ h => h) (Or.inl ⟨by rfl, ?_⟩) (by assumption) ?_
      · intro w' hSw
        go_simp
        exact i64_in _ (by omega)
      try simp only [Act.put, List.setIfInBounds_toArray, List.set_cons_zero, List.set_cons_succ]
      refine take_at (i := 7) (v := ?_) 16 rfl rfl (by kernel_rfl) (by kernel_rfl) (by kernel_rfl) (fun _ _ _ h => h) (Or.inl ⟨by rfl, ?_⟩) (by assumption) ?_
      rotate_left
      · intro w hSw; go_simp <;> with_reducible rfl
      try simp only [Act.put, List.setIfInBounds_toArray, List.set_cons_zero, List.set_cons_succ]
      refine take_at (i := 8) (v := ?_) 17 rfl rfl (by kernel_rfl) (by kernel_rfl) (by kernel_rfl) (fun _ _ _ h => h) (Or.inl ⟨by rfl, ?_⟩) (by assumption) ?_
      rotate_left
      · intro w hSw; go_simp <;> with_reducible rfl
      try simp only [Act.put, List.setIfInBounds_toArray, List.set_cons_zero, List.set_cons_succ]
      refine wpAnyH_ready (rs := [9]) (by kernel_rfl) (by simp) ?_
      refine AllReadyH.cons rfl (fun K' hK => ?_) AllReadyH.nil
      go_simp
      refine (before_any x y wr.drew).mono ?_
      rintro e w8 ⟨rfl, hb8⟩
      have hb9 : Below wr.heap.size wr w8 := (Below.refl _ wr).drew.trans hb8
      rw [← HT1.out]
      go_simp
      refine hK.out _ _ (HKK.out _ hb9) (fun hHeld => ?_)
      clear hK K'
      try simp only [Act.put, List.setIfInBounds_toArray, List.set_cons_zero, List.set_cons_succ]
      refine take_at (i := 10) (v := ?_) 19 rfl rfl (by kernel_rfl) (by kernel_rfl) (by kernel_rfl) (fun _ _ _ h => h) (Or.inl ⟨by rfl, ?_⟩) (by assumption) ?_
      rotate_left
      · intro w hSw; go_simp <;> with_reducible rfl
      try simp only [Act.put, List.setIfInBounds_toArray, List.set_cons_zero, List.set_cons_succ]
      refine wpAnyH_done (by kernel_rfl) ?_ _
      go_wp2_with fail
      go_meet
      case rel => exact ⟨rfl, hb9⟩
end Go.Proofs.Ytpmoelkblngamaa
