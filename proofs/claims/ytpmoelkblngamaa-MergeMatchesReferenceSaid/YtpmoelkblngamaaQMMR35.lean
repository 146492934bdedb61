/- merge: foyerref38.Scans, Merge: the walks. -/
import Derived.Test.YtpmoelkblngamaaQMMR21
import Derived.Test.YtpmoelkblngamaaQMMR34

namespace Go.Proofs.Ytpmoelkblngamaa
open Go.RowKit Go.IntWalk Go.Maps Go.WideMaps

theorem rec_new2 {α : Type} {k : Nat} {E : Enc α k} {w : World} {g : Nat} {T : TypeId} (l : List α) (h : w.heap[g]? = some (.cells (flat E l).toArray T (0, 0))) : RecRow E w g T l :=
  ⟨_, h, by rw [List.size_toArray, flat_len]; exact Nat.le_refl _, fun i j hi hj => by rw [List.getElem?_toArray]; exact flat_get l i j hi hj⟩
theorem scs_row2 {w : World} {g : Nat} {l : List Scn} (h : RecRow ScnE w g 39 l) : Scs w (.slice (some ⟨g, 0, none⟩) l.length l.length) l := ⟨_, _, rfl, h.recs, fun e => by cases e⟩
theorem row_alloc {w : World} {B k n : Nat} {T : TypeId} {v : Value} {xs : List Value} (h : w.ownsRow B T k v n xs) (o : Obj) : (w.alloc o).ownsRow B T k v n xs := row_of_heap h fun r hr => (Joins.below_alloc1 w o).block r (h.lt r hr).2
theorem row_mono {w : World} {B B' k n : Nat} {T : TypeId} {v : Value} {xs : List Value} (h : w.ownsRow B T k v n xs) (hb : B' ≤ B) : w.ownsRow B' T k v n xs := by
  obtain ⟨h1, h2⟩ := h
  refine ⟨h1, ?_⟩
  rcases h2 with h2 | ⟨g, cap, cur, e, hg, r⟩
  · exact Or.inl h2
  · exact Or.inr ⟨g, cap, cur, e, Nat.le_trans hb hg, r⟩

/-- A row of the call's own, as a slice. -/
theorem row_slice {α : Type} {E : Enc α 6} {w : World} {B n : Nat} {T : TypeId} {v : Value} {xs : List α} (h : w.ownsRow B T 6 v n (flat E xs)) : ∃ la c, v = .slice la n c ∧ n ≤ c ∧ xs.length = n ∧ ((la = none ∧ n = 0 ∧ c = 0) ∨ ∃ g, la = some ⟨g, 0, none⟩) ∧ Recs E w la n xs := by
  obtain ⟨la, c, rfl, ho, hc⟩ := OwnRecs.of_row2 h
  have hcap : n ≤ c := by
    rcases h.2 with ⟨e, h0⟩ | ⟨g, cap, cur, e, _, _, h1, _⟩
    · cases e; omega
    · cases e; omega
  refine ⟨la, c, rfl, hcap, ho.1, ?_, ho.recs⟩
  rcases h.2 with ⟨e, h0⟩ | ⟨g, cap, cur, e, _, _, h1, _⟩
  · cases e; exact Or.inl ⟨rfl, h0, rfl⟩
  · cases e; exact Or.inr ⟨_, rfl⟩

theorem recs_take2 {α : Type} {E : Enc α 6} {w : World} {la : Option Addr} {n : Nat} {L : List α} (h : Recs E w la n L) (i : Nat) (hi : i ≤ n) : Recs E w la i (L.take i) := by
  have hl := h.1
  refine ⟨by simp; omega, fun k hk => ?_⟩
  obtain ⟨b, o, e, c⟩ := h.2 k (by omega)
  refine ⟨b, o, e, fun j hj => ?_⟩
  rw [c j hj, rc_eq _ _ (by omega), rc_eq _ _ (by simp; omega), List.getElem_take]

theorem recs_rest2 {α : Type} {E : Enc α 6} {w : World} {g n c : Nat} {L : List α} (h : Recs E w (some ⟨g, 0, none⟩) n L) (i : Nat) (hi : i ≤ n) (hc : n ≤ c) : Recs E w (if c = i then some ⟨g, 0, none⟩ else some ⟨g, i * 6, none⟩) (n - i) (L.drop i) := by
  have hl := h.1
  by_cases e : c = i
  · rw [if_pos e, show n - i = 0 from by omega, List.drop_of_length_le (by omega)]
    exact ⟨rfl, fun i hi => by omega⟩
  · rw [if_neg e]
    refine ⟨by simp; omega, fun k hk => ⟨g, i * 6, rfl, fun j hj => ?_⟩⟩
    obtain ⟨b', o', e, c⟩ := h.2 (i + k) (by omega)
    cases e
    have := c j hj
    rw [show 0 + (i + k) * 6 + j = i * 6 + k * 6 + j from by omega] at this
    rw [this, rc_eq _ _ (by omega), rc_eq _ _ (by simp; omega), List.getElem_drop]

set_option maxRecDepth 100000 in
set_option maxHeartbeats 6400000 in
theorem rscans_any (w : World) (la : Option Addr) (n c : Nat) (l : List Scn) (h : Recs ScnE w la n l) (hn : n ≤ 1000) :
    Calls Try.prog 32 #[.slice la n c] w fun e w' => ∃ v, e = .returned v ∧ w'.ownsRow w.heap.size 39 6 v (mergeS l).length (flat ScnE (mergeS l)) ∧ Below w.heap.size w w' := by
  obtain rfl : l.length = n := h.1
  have HL := Lib.hid h
  clear h
  go_enter Try.func32, Try.ntmps32
  go_wp2_with fail
  go_loopw [3, 4] (fun v3 v4 wx => ∃ i : Nat, v4 = .int .i64 i ∧ i ≤ l.length ∧ Hid (wx.ownsRow w.heap.size 39 6 v3 (setK KS (l.take i)).length (flat ScnE (setK KS (l.take i)))) ∧ Hid (Below w.heap.size w wx)) (fun _ v4 _ => l.length - (intOf v4).toNat)
  case atStart => exact ⟨0, rfl, Nat.zero_le _, ⟨rfl, Or.inl ⟨rfl, rfl⟩⟩, Below.refl _ _⟩
  case round =>
    obtain ⟨i, rfl, hi, HRO, HB⟩ := hrel
    by_cases hlt : i < l.length
    · have HST := Lib.hid (setK_strict KS (l.take i))
      have hm : (setK KS (l.take i)).length ≤ i := by
        have := mergeS_len (l.take i)
        rw [List.length_take] at this
        exact Nat.le_trans this (by omega)
      have HNX : Hid (setK KS (l.take (i + 1)) = insK KS l[i] (setK KS (l.take i))) := by
        show _ = _
        rw [List.take_succ_eq_append_getElem hlt, setK_snoc]
      obtain ⟨b1, o1, rfl, d0, d1, d2, d3, d4, d5⟩ := scn_at (HL.out.below HB.out) i hlt hlt
      have HXC : Hid (∀ w' : World, Below wr.heap.size wr w' → w'.cell? ⟨b1, o1 + i * 6, none⟩ = some (.int .i64 l[i].gate) ∧ w'.cell? ⟨b1, o1 + i * 6 + 1, none⟩ = some (.int .i64 l[i].number) ∧ w'.cell? ⟨b1, o1 + i * 6 + 2, none⟩ = some (.int .i64 l[i].time) ∧ w'.cell? ⟨b1, o1 + i * 6 + 3, none⟩ = some (.int .i64 l[i].serial) ∧ w'.cell? ⟨b1, o1 + i * 6 + 4, none⟩ = some (.int .i64 l[i].kind) ∧ w'.cell? ⟨b1, o1 + i * 6 + 5, none⟩ = some (.string (bs l[i].owner))) := fun w' hb =>
        ⟨Below.cell_of hb d0, Below.cell_of hb d1, Below.cell_of hb d2, Below.cell_of hb d3, Below.cell_of hb d4, Below.cell_of hb d5⟩
      generalize l[i] = x at *
      generalize setK KS (l.take i) = O at *
      clear d0 d1 d2 d3 d4 d5
      obtain ⟨oa, oc, rfl, hcap, _, hoa, hor⟩ := row_slice HRO.out
      have HOR := Lib.hid hor
      have HOA := Lib.hid hoa
      clear hor hoa
      generalize wr = w0 at *
      go_wp2_with fail
      go_loopw [5] (fun v5 wx => ∃ p : Nat, v5 = .int .i64 p ∧ p ≤ O.length ∧ Hid (∀ j (hj : j < O.length), p ≤ j → KLt KS x O[j]) ∧ Hid (Below w0.heap.size w0 wx)) (fun v5 _ => (intOf v5).toNat)
      case atStart => exact ⟨O.length, rfl, Nat.le_refl _, fun j hj hpj => by omega, Below.refl _ _⟩
      case round =>
        obtain ⟨p, rfl, hp, HBEF, HBr⟩ := hrel
        obtain ⟨t, ht⟩ : ∃ t : Bool, t = @decide (∃ y, (0 < p ∧ O[p - 1]? = some y) ∧ KLt KS x y) (Classical.propDecidable _) := ⟨_, rfl⟩
        have HT := Lib.hid ht
        clear ht
        go_upto_region 6 with fail
        go_cut [28] (fun v28 wx => v28 = .bool t ∧ Hid (Below wr.heap.size wr wx))
        case rest =>
          obtain ⟨rfl, HBm⟩ := hcut
          have HBn := Lib.hid (HBr.out.trans (HBm.out.mono HBr.out.size))
          clear HBm HBr
          cases t
          · have HSTOP : Hid (∀ q, q + 1 = p → ∃ y, O[q]? = some y ∧ ¬ KLt KS x y) := fun q hq => by
              have h1 : q < O.length := by omega
              refine ⟨O[q], List.getElem?_eq_getElem h1, fun hk => ?_⟩
              have := HT.out
              rw [eq_comm, decide_eq_false_iff_not] at this
              exact this ⟨O[q], ⟨by omega, by rw [show p - 1 = q from by omega]; exact List.getElem?_eq_getElem h1⟩, hk⟩
            have HIK := Lib.hid (insK_at KS HST.out hp HBEF.out HSTOP.out)
            clear HT HBEF HSTOP
            generalize wc = wa at *
            obtain ⟨e, he⟩ : ∃ e : Bool, e = decide (0 < p ∧ O[p - 1]? = some x) := ⟨_, rfl⟩
            have HE := Lib.hid he
            clear he
            go_upto_region 8 with fail
            go_cut [44] from 7 to 61 (fun v44 wx => v44 = .bool e ∧ Hid (Below wa.heap.size wa wx))
            case rest =>
              obtain ⟨rfl, HBm⟩ := hcut
              have HBk := Lib.hid (HBn.out.trans (HBm.out.mono HBn.out.size))
              clear HBm HBn
              have HROk := Lib.hid (row_of_heap HRO.out fun r hr => HBk.out.block r (HRO.out.lt r hr).2)
              have HBw := Lib.hid (HB.out.trans (HBk.out.mono HB.out.size))
              cases e
              · have HIN : Hid (setK KS (l.take (i + 1)) = O.take p ++ x :: O.drop p) := by
                  show _ = _
                  rw [HNX.out]
                  refine HIK.out.2 fun q hq hx => ?_
                  have := HE.out
                  rw [eq_comm, decide_eq_false_iff_not] at this
                  exact this ⟨by omega, by rw [show p - 1 = q from by omega]; exact hx⟩
                clear HIK HE HNX
                obtain ⟨d0, d1, d2, d3, d4, d5⟩ := HXC.out _ HBk.out
                have HORk := Lib.hid (HOR.out.below HBk.out)
                have hbse := HBw.out.size
                generalize wc = w9 at *
                have HB9 := Lib.hid (Joins.below_alloc1 w9 (.cells #[] 39))
                have HV9 : Hid (World.ownsRow (w9.alloc (.cells #[] 39)) w9.heap.size 39 6 (.slice (some ⟨w9.heap.size, 0, none⟩) 0 0) 0 (flat ScnE [])) := ⟨rfl, Or.inr ⟨w9.heap.size, 0, #[], rfl, Nat.le_refl _, World.alloc_heap_new w9 _, Nat.le_refl _, by decide, rfl, rfl⟩⟩
                have hlt1 : (O.take p).length = p := by rw [List.length_take]; omega
                have hld1 : (O.drop p).length = O.length - p := List.length_drop ..
                have HLE : Hid ((O.take p ++ x :: O.drop p).length = 0 + (O.take p).length + 1 + (O.drop p).length) := by show _ = _; rw [List.length_append, List.length_cons]; omega
                have HFE : Hid ([] ++ O.take p ++ [x] ++ O.drop p = O.take p ++ x :: O.drop p) := by show _ = _; simp
                rcases HOA.out with ⟨rfl, hn0, rfl⟩ | ⟨g, rfl⟩
                · have hO : O = [] := List.length_eq_zero_iff.mp hn0
                  subst hO
                  obtain rfl : p = 0 := by simpa using hp
                  have HS1 : Hid (∀ wx, Below w9.heap.size w9 wx → Scs wx (.slice none 0 0) (([] : List Scn).take 0)) := fun wx _ => Scs.nil wx
                  have HS2 : Hid (∀ wx, Below w9.heap.size w9 wx → Scs wx (.slice none 0 0) (([] : List Scn).drop 0)) := fun wx _ => Scs.nil wx
                  go_upto_region 9 with fail
                  go_wp2_with (first | (at_builtin; refine wpList_append_scs rfl (.tmp 45) (.tmp 48) rfl rfl rfl HV9.out (HS1.out _ HB9.out) (by omega) HB9.out.size ?_; intro v10 w10 ho10 hg10 _; have HO10 := Lib.hid ho10; have HB10 : Hid (Below w9.heap.size w9 w10) := (HB9.out.grown hg10 HB9.out.size (fun k e => (HV9.out.lt k e).1)); obtain ⟨k0, k1, k2, k3, k4, k5⟩ := HXC.out _ (HBk.out.trans (HB10.out.mono HBk.out.size)); clear ho10 hg10) | (at_builtin; refine wpList_append_scs rfl (.tmp 50) (.tmp 55) rfl rfl rfl (row_alloc HO10.out _) (scs_row2 (l := [x]) (rec_new2 _ (World.alloc_heap_new w10 _))) (by show 0 + (List.take _ _).length + 1 ≤ _; omega) (HB10.out.trans ((Joins.below_alloc1 w10 _).mono HB10.out.size)).size ?_; intro v11 w11 ho11 hg11 _; have HO11 := Lib.hid ho11; have HB11 : Hid (Below w9.heap.size w9 w11) := ((HB10.out.trans ((Joins.below_alloc1 w10 _).mono HB10.out.size)).grown hg11 (HB10.out.trans ((Joins.below_alloc1 w10 _).mono HB10.out.size)).size (fun k e => (HO10.out.lt k e).1)); clear ho11 hg11) | (at_builtin; refine wpList_append_scs rfl (.tmp 57) (.tmp 60) rfl rfl rfl HO11.out (HS2.out _ HB11.out) (by show 0 + (List.take _ _).length + 1 + _ ≤ _; omega) HB11.out.size ?_; intro v12 w12 ho12 hg12 _; have HB12 : Hid (Below w.heap.size w w12) := HBw.out.trans ((HB11.out.grown hg12 HB11.out.size (fun k e => (HO11.out.lt k e).1)).mono hbse); have HO12 := Lib.hid (row_mono ho12 hbse); clear ho12 hg12))
                  go_roundw
                  case rel => exact ⟨i + 1, by go_num, hlt, by rw [HIN.out, HLE.out, ← HFE.out]; exact HO12.out, HB12.out⟩
                  case measure => (simp [intOf] <;> omega)
                · have HS1 : Hid (∀ wx, Below w9.heap.size w9 wx → Scs wx (.slice (some ⟨g, 0, none⟩) p oc) (O.take p)) := fun wx hb => ⟨_, _, by rw [hlt1], by rw [hlt1]; exact recs_take2 (HORk.out.below hb) p hp, fun e => by cases e⟩
                  have HS2 : Hid (∀ wx, Below w9.heap.size w9 wx → Scs wx (.slice (if oc = p then some ⟨g, 0, none⟩ else some ⟨g, p * 6, none⟩) (O.length - p) (oc - p)) (O.drop p)) := fun wx hb => ⟨_, _, by rw [hld1], by rw [hld1]; exact recs_rest2 (HORk.out.below hb) p hp hcap, fun e => by split at e <;> cases e⟩
                  have hpc : p ≤ oc := by omega
                  have hpi : (p : Int) ≤ oc := by omega
                  go_upto_region 9 with fail
                  go_wp2_with (first | (at_builtin; refine wpList_append_scs rfl (.tmp 45) (.tmp 48) rfl rfl rfl HV9.out (HS1.out _ HB9.out) (by omega) HB9.out.size ?_; intro v10 w10 ho10 hg10 _; have HO10 := Lib.hid ho10; have HB10 : Hid (Below w9.heap.size w9 w10) := (HB9.out.grown hg10 HB9.out.size (fun k e => (HV9.out.lt k e).1)); obtain ⟨k0, k1, k2, k3, k4, k5⟩ := HXC.out _ (HBk.out.trans (HB10.out.mono HBk.out.size)); clear ho10 hg10) | (at_builtin; refine wpList_append_scs rfl (.tmp 50) (.tmp 55) rfl rfl rfl (row_alloc HO10.out _) (scs_row2 (l := [x]) (rec_new2 _ (World.alloc_heap_new w10 _))) (by show 0 + (List.take _ _).length + 1 ≤ _; omega) (HB10.out.trans ((Joins.below_alloc1 w10 _).mono HB10.out.size)).size ?_; intro v11 w11 ho11 hg11 _; have HO11 := Lib.hid ho11; have HB11 : Hid (Below w9.heap.size w9 w11) := ((HB10.out.trans ((Joins.below_alloc1 w10 _).mono HB10.out.size)).grown hg11 (HB10.out.trans ((Joins.below_alloc1 w10 _).mono HB10.out.size)).size (fun k e => (HO10.out.lt k e).1)); clear ho11 hg11) | (at_builtin; refine wpList_append_scs rfl (.tmp 57) (.tmp 60) rfl rfl rfl HO11.out (HS2.out _ HB11.out) (by show 0 + (List.take _ _).length + 1 + _ ≤ _; omega) HB11.out.size ?_; intro v12 w12 ho12 hg12 _; have HB12 : Hid (Below w.heap.size w w12) := HBw.out.trans ((HB11.out.grown hg12 HB11.out.size (fun k e => (HO11.out.lt k e).1)).mono hbse); have HO12 := Lib.hid (row_mono ho12 hbse); clear ho12 hg12))
                  go_roundw
                  case rel => exact ⟨i + 1, by go_num, hlt, by rw [HIN.out, HLE.out, ← HFE.out]; exact HO12.out, HB12.out⟩
                  case measure => (simp [intOf] <;> omega)
              · have HIN : Hid (setK KS (l.take (i + 1)) = O) := by
                  show _ = _
                  rw [HNX.out]
                  have := HE.out
                  rw [eq_comm, decide_eq_true_eq] at this
                  exact HIK.out.1 (p - 1) (by omega) this.2
                clear HIK HE HNX
                go_wp2_with fail
                go_roundw
                case rel => exact ⟨i + 1, by go_num, hlt, by rw [HIN.out]; exact HROk.out, HBw.out⟩
                case measure => (simp [intOf] <;> omega)
            by_cases hp0 : p = 0
            · subst hp0
              have HE0 : Hid (e = false) := by show _ = _; rw [HE.out]; simp
              have HKK : Hid (∀ w' : World, Below wa.heap.size wa w' → w'.cell? ⟨b1, o1 + i * 6, none⟩ = some (.int .i64 x.gate) ∧ w'.cell? ⟨b1, o1 + i * 6 + 1, none⟩ = some (.int .i64 x.number) ∧ w'.cell? ⟨b1, o1 + i * 6 + 2, none⟩ = some (.int .i64 x.time) ∧ w'.cell? ⟨b1, o1 + i * 6 + 3, none⟩ = some (.int .i64 x.serial) ∧ w'.cell? ⟨b1, o1 + i * 6 + 4, none⟩ = some (.int .i64 x.kind) ∧ w'.cell? ⟨b1, o1 + i * 6 + 5, none⟩ = some (.string (bs x.owner))) := fun w' hb => HXC.out w' (HBn.out.trans (hb.mono HBn.out.size))
              refine wp_region_held_drew (S := fun w' => w'.cell? ⟨b1, o1 + i * 6, none⟩ = some (.int .i64 x.gate) ∧ w'.cell? ⟨b1, o1 + i * 6 + 1, none⟩ = some (.int .i64 x.number) ∧ w'.cell? ⟨b1, o1 + i * 6 + 2, none⟩ = some (.int .i64 x.time) ∧ w'.cell? ⟨b1, o1 + i * 6 + 3, none⟩ = some (.int .i64 x.serial) ∧ w'.cell? ⟨b1, o1 + i * 6 + 4, none⟩ = some (.int .i64 x.kind) ∧ w'.cell? ⟨b1, o1 + i * 6 + 5, none⟩ = some (.string (bs x.owner))) (by kernel_rfl) (HKK.out wa (Below.refl _ _)) (fun hHeld => ?_)
              refine take_at (i := 0) (v := ?_) 31 rfl rfl (by kernel_rfl) (by kernel_rfl) (by kernel_rfl) (fun _ _ _ h => h) (Or.inl ⟨by rfl, ?_⟩) (by assumption) ?_
              rotate_left
              · intro w hSw; go_simp <;> with_reducible rfl
              try simp only [Act.put, List.setIfInBounds_toArray, List.set_cons_zero, List.set_cons_succ]
              refine take_at (i := 1) (v := ?_) 32 rfl rfl (by kernel_rfl) (by kernel_rfl) (by kernel_rfl) (fun _ _ _ h => h) (Or.inl ⟨by rfl, ?_⟩) (by assumption) ?_
              rotate_left
              · intro w hSw; go_simp <;> with_reducible rfl
              try simp only [Act.put, List.setIfInBounds_toArray, List.set_cons_zero, List.set_cons_succ]
              refine take_at (i := 2) (v := ?_) 33 rfl rfl (by kernel_rfl) (by kernel_rfl) (by kernel_rfl) (fun _ _ _ h => h) (Or.inl ⟨by rfl, ?_⟩) (by assumption) ?_
              rotate_left
              · intro w hSw; go_simp <;> with_reducible rfl
              try simp only [Act.put, List.setIfInBounds_toArray, List.set_cons_zero, List.set_cons_succ]
              refine take_at (i := 3) (v := undef) 34 rfl rfl (by kernel_rfl) (by kernel_rfl) (by kernel_rfl) (fun _ _ _ h => h) (Or.inr ⟨by rfl, rfl⟩) (by assumption) ?_
              try simp only [Act.put, List.setIfInBounds_toArray, List.set_cons_zero, List.set_cons_succ]
              refine take_at (i := 4) (v := undef) 35 rfl rfl (by kernel_rfl) (by kernel_rfl) (by kernel_rfl) (fun _ _ _ h => h) (Or.inr ⟨by rfl, rfl⟩) (by assumption) ?_
              try simp only [Act.put, List.setIfInBounds_toArray, List.set_cons_zero, List.set_cons_succ]
              refine take_at (i := 5) (v := undef) 36 rfl rfl (by kernel_rfl) (by kernel_rfl) (by kernel_rfl) (fun _ _ _ h => h) (Or.inr ⟨by rfl, rfl⟩) (by assumption) ?_
              try simp only [Act.put, List.setIfInBounds_toArray, List.set_cons_zero, List.set_cons_succ]
              refine take_at (i := 6) (v := undef) 37 rfl rfl (by kernel_rfl) (by kernel_rfl) (by kernel_rfl) (fun _ _ _ h => h) (Or.inr ⟨by rfl, rfl⟩) (by assumption) ?_
              try simp only [Act.put, List.setIfInBounds_toArray, List.set_cons_zero, List.set_cons_succ]
              refine take_at (i := 7) (v := undef) 38 rfl rfl (by kernel_rfl) (by kernel_rfl) (by kernel_rfl) (fun _ _ _ h => h) (Or.inr ⟨by rfl, rfl⟩) (by assumption) ?_
              try simp only [Act.put, List.setIfInBounds_toArray, List.set_cons_zero, List.set_cons_succ]
              refine take_at (i := 8) (v := undef) 39 rfl rfl (by kernel_rfl) (by kernel_rfl) (by kernel_rfl) (fun _ _ _ h => h) (Or.inr ⟨by rfl, rfl⟩) (by assumption) ?_
              try simp only [Act.put, List.setIfInBounds_toArray, List.set_cons_zero, List.set_cons_succ]
              refine take_at (i := 9) (v := undef) 40 rfl rfl (by kernel_rfl) (by kernel_rfl) (by kernel_rfl) (fun _ _ _ h => h) (Or.inr ⟨by rfl, rfl⟩) (by assumption) ?_
              try simp only [Act.put, List.setIfInBounds_toArray, List.set_cons_zero, List.set_cons_succ]
              refine take_at (i := 10) (v := undef) 41 rfl rfl (by kernel_rfl) (by kernel_rfl) (by kernel_rfl) (fun _ _ _ h => h) (Or.inr ⟨by rfl, rfl⟩) (by assumption) ?_
              try simp only [Act.put, List.setIfInBounds_toArray, List.set_cons_zero, List.set_cons_succ]
              refine take_at (i := 11) (v := undef) 42 rfl rfl (by kernel_rfl) (by kernel_rfl) (by kernel_rfl) (fun _ _ _ h => h) (Or.inr ⟨by rfl, rfl⟩) (by assumption) ?_
              try simp only [Act.put, List.setIfInBounds_toArray, List.set_cons_zero, List.set_cons_succ]
              refine take_at (i := 12) (v := undef) 43 rfl rfl (by kernel_rfl) (by kernel_rfl) (by kernel_rfl) (fun _ _ _ h => h) (Or.inr ⟨by rfl, rfl⟩) (by assumption) ?_
              try simp only [Act.put, List.setIfInBounds_toArray, List.set_cons_zero, List.set_cons_succ]
              refine take_at (i := 13) (v := ?_) 44 rfl rfl (by kernel_rfl) (by kernel_rfl) (by kernel_rfl) (fun _ _ _ h => h) (Or.inl ⟨by rfl, ?_⟩) (by assumption) ?_
              rotate_left
              · intro w hSw; go_simp <;> with_reducible rfl
              try simp only [Act.put, List.setIfInBounds_toArray, List.set_cons_zero, List.set_cons_succ]
              refine wpAnyH_done (by kernel_rfl) ?_ _
              go_wp2_with fail
              go_meet
              case rel => exact ⟨by rw [HE0.out], (Below.refl _ wa).drew⟩
            · obtain ⟨q, rfl⟩ : ∃ q, p = q + 1 := ⟨p - 1, by omega⟩
              have hq : q < O.length := by omega
              obtain ⟨b2, o2, rfl, c0, c1, c2, c3, c4, c5⟩ := scn_at (HOR.out.below HBn.out) q hq hq
              have HE1 : Hid (e = decide (O[q] = x)) := by
                show _ = _
                rw [HE.out]
                have : O[q + 1 - 1]? = some O[q] := by rw [Nat.add_sub_cancel]; exact List.getElem?_eq_getElem hq
                rw [this]
                simp
              generalize O[q] = y at *
              have HKK : Hid (∀ w' : World, Below wa.heap.size wa w' → w'.cell? ⟨b1, o1 + i * 6, none⟩ = some (.int .i64 x.gate) ∧ w'.cell? ⟨b1, o1 + i * 6 + 1, none⟩ = some (.int .i64 x.number) ∧ w'.cell? ⟨b1, o1 + i * 6 + 2, none⟩ = some (.int .i64 x.time) ∧ w'.cell? ⟨b1, o1 + i * 6 + 3, none⟩ = some (.int .i64 x.serial) ∧ w'.cell? ⟨b1, o1 + i * 6 + 4, none⟩ = some (.int .i64 x.kind) ∧ w'.cell? ⟨b1, o1 + i * 6 + 5, none⟩ = some (.string (bs x.owner)) ∧ w'.cell? ⟨b2, o2 + q * 6, none⟩ = some (.int .i64 y.gate) ∧ w'.cell? ⟨b2, o2 + q * 6 + 1, none⟩ = some (.int .i64 y.number) ∧ w'.cell? ⟨b2, o2 + q * 6 + 2, none⟩ = some (.int .i64 y.time) ∧ w'.cell? ⟨b2, o2 + q * 6 + 3, none⟩ = some (.int .i64 y.serial) ∧ w'.cell? ⟨b2, o2 + q * 6 + 4, none⟩ = some (.int .i64 y.kind) ∧ w'.cell? ⟨b2, o2 + q * 6 + 5, none⟩ = some (.string (bs y.owner))) := fun w' hb => by
                obtain ⟨d0, d1, d2, d3, d4, d5⟩ := HXC.out w' (HBn.out.trans (hb.mono HBn.out.size))
                exact ⟨d0, d1, d2, d3, d4, d5, Below.cell_of hb c0, Below.cell_of hb c1, Below.cell_of hb c2, Below.cell_of hb c3, Below.cell_of hb c4, Below.cell_of hb c5⟩
              clear c0 c1 c2 c3 c4 c5
              have hq0 : (0 : Int) < (q : Int) + 1 := by omega
              have hgd := fun (p q : Operand) (wx : World) => guard_scn .eql p q y x wx
              have heq : ∀ wx, Sem.run Try.prog (binOp .eql 39 (.agg #[.int .i64 y.gate, .int .i64 y.number, .int .i64 y.time, .int .i64 y.serial, .int .i64 y.kind, .string (bs y.owner)]) (.agg #[.int .i64 x.gate, .int .i64 x.number, .int .i64 x.time, .int .i64 x.serial, .int .i64 x.kind, .string (bs x.owner)])) wx = .ok (.bool e) wx := fun wx => by rw [eql_scn, HE1.out]
              refine wp_region_held_drew (S := fun w' => w'.cell? ⟨b1, o1 + i * 6, none⟩ = some (.int .i64 x.gate) ∧ w'.cell? ⟨b1, o1 + i * 6 + 1, none⟩ = some (.int .i64 x.number) ∧ w'.cell? ⟨b1, o1 + i * 6 + 2, none⟩ = some (.int .i64 x.time) ∧ w'.cell? ⟨b1, o1 + i * 6 + 3, none⟩ = some (.int .i64 x.serial) ∧ w'.cell? ⟨b1, o1 + i * 6 + 4, none⟩ = some (.int .i64 x.kind) ∧ w'.cell? ⟨b1, o1 + i * 6 + 5, none⟩ = some (.string (bs x.owner)) ∧ w'.cell? ⟨b2, o2 + q * 6, none⟩ = some (.int .i64 y.gate) ∧ w'.cell? ⟨b2, o2 + q * 6 + 1, none⟩ = some (.int .i64 y.number) ∧ w'.cell? ⟨b2, o2 + q * 6 + 2, none⟩ = some (.int .i64 y.time) ∧ w'.cell? ⟨b2, o2 + q * 6 + 3, none⟩ = some (.int .i64 y.serial) ∧ w'.cell? ⟨b2, o2 + q * 6 + 4, none⟩ = some (.int .i64 y.kind) ∧ w'.cell? ⟨b2, o2 + q * 6 + 5, none⟩ = some (.string (bs y.owner))) (by kernel_rfl) (HKK.out wa (Below.refl _ _)) (fun hHeld => ?_)
              refine take_at (i := 0) (v := ?_) 31 rfl rfl (by kernel_rfl) (by kernel_rfl) (by kernel_rfl) (fun _ _ _ h => h) (Or.inl ⟨by rfl, ?_⟩) (by assumption) ?_
              rotate_left
              · intro w hSw; go_simp <;> with_reducible rfl
              try simp only [Act.put, List.setIfInBounds_toArray, List.set_cons_zero, List.set_cons_succ]
              refine take_at (i := 1) (v := ?_) 32 rfl rfl (by kernel_rfl) (by kernel_rfl) (by kernel_rfl) (fun _ _ _ h => h) (Or.inl ⟨by rfl, ?_⟩) (by assumption) ?_
              rotate_left
              · intro w hSw; go_simp <;> with_reducible rfl
              try simp only [Act.put, List.setIfInBounds_toArray, List.set_cons_zero, List.set_cons_succ]
              refine take_at (i := 2) (v := ?_) 33 rfl rfl (by kernel_rfl) (by kernel_rfl) (by kernel_rfl) (fun _ _ _ h => h) (Or.inl ⟨by rfl, ?_⟩) (by assumption) ?_
              rotate_left
              · intro w hSw; go_simp <;> with_reducible rfl
              try simp only [Act.put, List.setIfInBounds_toArray, List.set_cons_zero, List.set_cons_succ]
              refine take_at (i := 3) (v := ?_) 34 rfl rfl (by kernel_rfl) (by kernel_rfl) (by kernel_rfl) (fun _ _ _ h => h) (Or.inl ⟨by rfl, ?_⟩) (by assumption) ?_
              rotate_left
              · intro w hSw; go_simp <;> with_reducible rfl
              try simp only [Act.put, List.setIfInBounds_toArray, List.set_cons_zero, List.set_cons_succ]
              refine take_at (i := 4) (v := ?_) 35 rfl rfl (by kernel_rfl) (by kernel_rfl) (by kernel_rfl) (fun _ _ _ h => h) (Or.inl ⟨by rfl, ?_⟩) (by assumption) ?_
              rotate_left
              · intro w hSw; go_simp <;> with_reducible rfl
              try simp only [Act.put, List.setIfInBounds_toArray, List.set_cons_zero, List.set_cons_succ]
              refine take_at (i := 5) (v := .int .i64 (q : Int)) 36 rfl rfl (by kernel_rfl) (by kernel_rfl) (by kernel_rfl) (fun _ _ _ h => h) (Or.inl ⟨by rfl, ?_⟩) (by assumption) ?_
              · intro w' hSw
                go_simp
                exact i64_in _ (by omega)
              try simp only [Act.put, List.setIfInBounds_toArray, List.set_cons_zero, List.set_cons_succ]
              refine take_at (i := 6) (v := ?_) 37 rfl rfl (by kernel_rfl) (by kernel_rfl) (by kernel_rfl) (fun _ _ _ h => h) (Or.inl ⟨by rfl, ?_⟩) (by assumption) ?_
              rotate_left
              · intro w hSw; go_simp <;> with_reducible rfl
              try simp only [Act.put, List.setIfInBounds_toArray, List.set_cons_zero, List.set_cons_succ]
              refine take_at (i := 7) (v := ?_) 38 rfl rfl (by kernel_rfl) (by kernel_rfl) (by kernel_rfl) (fun _ _ _ h => h) (Or.inl ⟨by rfl, ?_⟩) (by assumption) ?_
              rotate_left
              · intro w hSw; go_simp <;> with_reducible rfl
              try simp only [Act.put, List.setIfInBounds_toArray, List.set_cons_zero, List.set_cons_succ]
              refine take_at (i := 8) (v := ?_) 39 rfl rfl (by kernel_rfl) (by kernel_rfl) (by kernel_rfl) (fun _ _ _ h => h) (Or.inl ⟨by rfl, ?_⟩) (by assumption) ?_
              rotate_left
              · intro w hSw; go_simp <;> with_reducible rfl
              try simp only [Act.put, List.setIfInBounds_toArray, List.set_cons_zero, List.set_cons_succ]
              refine take_at (i := 9) (v := ?_) 40 rfl rfl (by kernel_rfl) (by kernel_rfl) (by kernel_rfl) (fun _ _ _ h => h) (Or.inl ⟨by rfl, ?_⟩) (by assumption) ?_
              rotate_left
              · intro w hSw; go_simp <;> with_reducible rfl
              try simp only [Act.put, List.setIfInBounds_toArray, List.set_cons_zero, List.set_cons_succ]
              refine take_at (i := 10) (v := ?_) 41 rfl rfl (by kernel_rfl) (by kernel_rfl) (by kernel_rfl) (fun _ _ _ h => h) (Or.inl ⟨by rfl, ?_⟩) (by assumption) ?_
              rotate_left
              · intro w hSw; go_simp <;> with_reducible rfl
              try simp only [Act.put, List.setIfInBounds_toArray, List.set_cons_zero, List.set_cons_succ]
              refine take_at (i := 11) (v := ?_) 42 rfl rfl (by kernel_rfl) (by kernel_rfl) (by kernel_rfl) (fun _ _ _ h => h) (Or.inl ⟨by rfl, ?_⟩) (by assumption) ?_
              rotate_left
              · intro w hSw; go_simp <;> with_reducible rfl
              try simp only [Act.put, List.setIfInBounds_toArray, List.set_cons_zero, List.set_cons_succ]
              refine take_at (i := 12) (v := ?_) 43 rfl rfl (by kernel_rfl) (by kernel_rfl) (by kernel_rfl) (fun _ _ _ h => h) (Or.inl ⟨by rfl, ?_⟩) (by assumption) ?_
              rotate_left
              · intro w hSw; go_simp <;> with_reducible rfl
              try simp only [Act.put, List.setIfInBounds_toArray, List.set_cons_zero, List.set_cons_succ]
              refine take_at (i := 13) (v := ?_) 44 rfl rfl (by kernel_rfl) (by kernel_rfl) (by kernel_rfl) (fun _ _ _ h => h) (Or.inl ⟨by rfl, ?_⟩) (by assumption) ?_
              rotate_left
              · intro w hSw; go_simp <;> with_reducible rfl
              try simp only [Act.put, List.setIfInBounds_toArray, List.set_cons_zero, List.set_cons_succ]
              refine wpAnyH_done (by kernel_rfl) ?_ _
              go_wp2_with fail
              go_meet
              case rel => exact ⟨rfl, (Below.refl _ wa).drew⟩
          · have hex : ∃ y, (0 < p ∧ O[p - 1]? = some y) ∧ KLt KS x y := @of_decide_eq_true _ (Classical.propDecidable _) HT.out.symm
            have hp0 : 0 < p := by obtain ⟨_, ⟨h, _⟩, _⟩ := hex; exact h
            obtain ⟨q, rfl⟩ : ∃ q, p = q + 1 := ⟨p - 1, by omega⟩
            have HB2 : Hid (∀ j (hj : j < O.length), q ≤ j → KLt KS x O[j]) := fun j hj hqj => by
              by_cases e : j = q
              · obtain ⟨y, ⟨_, h1⟩, h2⟩ := hex
                subst e
                rw [Nat.add_sub_cancel, List.getElem?_eq_getElem hj] at h1
                cases h1
                exact h2
              · exact HBEF.out j hj (by omega)
            clear hex HT HBEF
            go_wp2_with fail
            go_roundw
            case rel => exact ⟨q, by go_num, by omega, HB2.out, HBn.out⟩
            case measure => (simp [intOf] <;> omega)
        by_cases hp0 : p = 0
        · subst hp0
          have HT0 : Hid (t = false) := by show _ = _; rw [HT.out, decide_eq_false_iff_not]; rintro ⟨_, ⟨h, _⟩, _⟩; omega
          have HKK : Hid (∀ w' : World, Below wr.heap.size wr w' → w'.cell? ⟨b1, o1 + i * 6, none⟩ = some (.int .i64 x.gate) ∧ w'.cell? ⟨b1, o1 + i * 6 + 1, none⟩ = some (.int .i64 x.number) ∧ w'.cell? ⟨b1, o1 + i * 6 + 2, none⟩ = some (.int .i64 x.time) ∧ w'.cell? ⟨b1, o1 + i * 6 + 3, none⟩ = some (.int .i64 x.serial) ∧ w'.cell? ⟨b1, o1 + i * 6 + 4, none⟩ = some (.int .i64 x.kind) ∧ w'.cell? ⟨b1, o1 + i * 6 + 5, none⟩ = some (.string (bs x.owner))) := fun w' hb => HXC.out w' (HBr.out.trans (hb.mono HBr.out.size))
          refine wp_region_held_drew (S := fun w' => w'.cell? ⟨b1, o1 + i * 6, none⟩ = some (.int .i64 x.gate) ∧ w'.cell? ⟨b1, o1 + i * 6 + 1, none⟩ = some (.int .i64 x.number) ∧ w'.cell? ⟨b1, o1 + i * 6 + 2, none⟩ = some (.int .i64 x.time) ∧ w'.cell? ⟨b1, o1 + i * 6 + 3, none⟩ = some (.int .i64 x.serial) ∧ w'.cell? ⟨b1, o1 + i * 6 + 4, none⟩ = some (.int .i64 x.kind) ∧ w'.cell? ⟨b1, o1 + i * 6 + 5, none⟩ = some (.string (bs x.owner))) (by kernel_rfl) (HKK.out wr (Below.refl _ _)) (fun hHeld => ?_)
          refine take_at (i := 0) (v := ?_) 15 rfl rfl (by kernel_rfl) (by kernel_rfl) (by kernel_rfl) (fun _ _ _ h => h) (Or.inl ⟨by rfl, ?_⟩) (by assumption) ?_
          rotate_left
          · intro w hSw; go_simp <;> with_reducible rfl
          try simp only [Act.put, List.setIfInBounds_toArray, List.set_cons_zero, List.set_cons_succ]
          refine take_at (i := 1) (v := ?_) 16 rfl rfl (by kernel_rfl) (by kernel_rfl) (by kernel_rfl) (fun _ _ _ h => h) (Or.inl ⟨by rfl, ?_⟩) (by assumption) ?_
          rotate_left
          · intro w hSw; go_simp <;> with_reducible rfl
          try simp only [Act.put, List.setIfInBounds_toArray, List.set_cons_zero, List.set_cons_succ]
          refine take_at (i := 2) (v := ?_) 17 rfl rfl (by kernel_rfl) (by kernel_rfl) (by kernel_rfl) (fun _ _ _ h => h) (Or.inl ⟨by rfl, ?_⟩) (by assumption) ?_
          rotate_left
          · intro w hSw; go_simp <;> with_reducible rfl
          try simp only [Act.put, List.setIfInBounds_toArray, List.set_cons_zero, List.set_cons_succ]
          refine take_at (i := 3) (v := undef) 18 rfl rfl (by kernel_rfl) (by kernel_rfl) (by kernel_rfl) (fun _ _ _ h => h) (Or.inr ⟨by rfl, rfl⟩) (by assumption) ?_
          try simp only [Act.put, List.setIfInBounds_toArray, List.set_cons_zero, List.set_cons_succ]
          refine take_at (i := 4) (v := undef) 19 rfl rfl (by kernel_rfl) (by kernel_rfl) (by kernel_rfl) (fun _ _ _ h => h) (Or.inr ⟨by rfl, rfl⟩) (by assumption) ?_
          try simp only [Act.put, List.setIfInBounds_toArray, List.set_cons_zero, List.set_cons_succ]
          refine take_at (i := 5) (v := undef) 20 rfl rfl (by kernel_rfl) (by kernel_rfl) (by kernel_rfl) (fun _ _ _ h => h) (Or.inr ⟨by rfl, rfl⟩) (by assumption) ?_
          try simp only [Act.put, List.setIfInBounds_toArray, List.set_cons_zero, List.set_cons_succ]
          refine take_at (i := 6) (v := undef) 21 rfl rfl (by kernel_rfl) (by kernel_rfl) (by kernel_rfl) (fun _ _ _ h => h) (Or.inr ⟨by rfl, rfl⟩) (by assumption) ?_
          try simp only [Act.put, List.setIfInBounds_toArray, List.set_cons_zero, List.set_cons_succ]
          refine take_at (i := 7) (v := undef) 22 rfl rfl (by kernel_rfl) (by kernel_rfl) (by kernel_rfl) (fun _ _ _ h => h) (Or.inr ⟨by rfl, rfl⟩) (by assumption) ?_
          try simp only [Act.put, List.setIfInBounds_toArray, List.set_cons_zero, List.set_cons_succ]
          refine take_at (i := 8) (v := undef) 23 rfl rfl (by kernel_rfl) (by kernel_rfl) (by kernel_rfl) (fun _ _ _ h => h) (Or.inr ⟨by rfl, rfl⟩) (by assumption) ?_
          try simp only [Act.put, List.setIfInBounds_toArray, List.set_cons_zero, List.set_cons_succ]
          refine take_at (i := 9) (v := undef) 24 rfl rfl (by kernel_rfl) (by kernel_rfl) (by kernel_rfl) (fun _ _ _ h => h) (Or.inr ⟨by rfl, rfl⟩) (by assumption) ?_
          try simp only [Act.put, List.setIfInBounds_toArray, List.set_cons_zero, List.set_cons_succ]
          refine take_at (i := 10) (v := undef) 25 rfl rfl (by kernel_rfl) (by kernel_rfl) (by kernel_rfl) (fun _ _ _ h => h) (Or.inr ⟨by rfl, rfl⟩) (by assumption) ?_
          try simp only [Act.put, List.setIfInBounds_toArray, List.set_cons_zero, List.set_cons_succ]
          refine take_at (i := 11) (v := undef) 26 rfl rfl (by kernel_rfl) (by kernel_rfl) (by kernel_rfl) (fun _ _ _ h => h) (Or.inr ⟨by rfl, rfl⟩) (by assumption) ?_
          try simp only [Act.put, List.setIfInBounds_toArray, List.set_cons_zero, List.set_cons_succ]
          refine take_at (i := 12) (v := undef) 27 rfl rfl (by kernel_rfl) (by kernel_rfl) (by kernel_rfl) (fun _ _ _ h => h) (Or.inr ⟨by rfl, rfl⟩) (by assumption) ?_
          try simp only [Act.put, List.setIfInBounds_toArray, List.set_cons_zero, List.set_cons_succ]
          refine take_at (i := 13) (v := ?_) 28 rfl rfl (by kernel_rfl) (by kernel_rfl) (by kernel_rfl) (fun _ _ _ h => h) (Or.inl ⟨by rfl, ?_⟩) (by assumption) ?_
          rotate_left
          · intro w hSw; go_simp <;> with_reducible rfl
          try simp only [Act.put, List.setIfInBounds_toArray, List.set_cons_zero, List.set_cons_succ]
          refine wpAnyH_done (by kernel_rfl) ?_ _
          go_wp2_with fail
          go_meet
          case rel => exact ⟨by rw [HT0.out], (Below.refl _ wr).drew⟩
        · obtain ⟨q, rfl⟩ : ∃ q, p = q + 1 := ⟨p - 1, by omega⟩
          have hq : q < O.length := by omega
          obtain ⟨b2, o2, rfl, c0, c1, c2, c3, c4, c5⟩ := scn_at (HOR.out.below HBr.out) q hq hq
          have HT1 : Hid (t = decide (KLt KS x O[q])) := by
            show _ = _
            rw [HT.out]
            have : O[q + 1 - 1]? = some O[q] := by rw [Nat.add_sub_cancel]; exact List.getElem?_eq_getElem hq
            rw [this]
            refine decide_eq_decide.mpr ⟨?_, fun hk => ⟨_, ⟨by omega, rfl⟩, hk⟩⟩
            rintro ⟨y, ⟨_, h1⟩, h2⟩
            cases h1
            exact h2
          generalize O[q] = y at *
          have HKK : Hid (∀ w' : World, Below wr.heap.size wr w' → w'.cell? ⟨b1, o1 + i * 6, none⟩ = some (.int .i64 x.gate) ∧ w'.cell? ⟨b1, o1 + i * 6 + 1, none⟩ = some (.int .i64 x.number) ∧ w'.cell? ⟨b1, o1 + i * 6 + 2, none⟩ = some (.int .i64 x.time) ∧ w'.cell? ⟨b1, o1 + i * 6 + 3, none⟩ = some (.int .i64 x.serial) ∧ w'.cell? ⟨b1, o1 + i * 6 + 4, none⟩ = some (.int .i64 x.kind) ∧ w'.cell? ⟨b1, o1 + i * 6 + 5, none⟩ = some (.string (bs x.owner)) ∧ w'.cell? ⟨b2, o2 + q * 6, none⟩ = some (.int .i64 y.gate) ∧ w'.cell? ⟨b2, o2 + q * 6 + 1, none⟩ = some (.int .i64 y.number) ∧ w'.cell? ⟨b2, o2 + q * 6 + 2, none⟩ = some (.int .i64 y.time) ∧ w'.cell? ⟨b2, o2 + q * 6 + 3, none⟩ = some (.int .i64 y.serial) ∧ w'.cell? ⟨b2, o2 + q * 6 + 4, none⟩ = some (.int .i64 y.kind) ∧ w'.cell? ⟨b2, o2 + q * 6 + 5, none⟩ = some (.string (bs y.owner))) := fun w' hb => by
            obtain ⟨d0, d1, d2, d3, d4, d5⟩ := HXC.out w' (HBr.out.trans (hb.mono HBr.out.size))
            exact ⟨d0, d1, d2, d3, d4, d5, Below.cell_of hb c0, Below.cell_of hb c1, Below.cell_of hb c2, Below.cell_of hb c3, Below.cell_of hb c4, Below.cell_of hb c5⟩
          clear c0 c1 c2 c3 c4 c5
          have hq0 : (0 : Int) < (q : Int) + 1 := by omega
          have hil : i < l.length := hlt
          refine wp_region_held_drew (S := fun w' => w'.cell? ⟨b1, o1 + i * 6, none⟩ = some (.int .i64 x.gate) ∧ w'.cell? ⟨b1, o1 + i * 6 + 1, none⟩ = some (.int .i64 x.number) ∧ w'.cell? ⟨b1, o1 + i * 6 + 2, none⟩ = some (.int .i64 x.time) ∧ w'.cell? ⟨b1, o1 + i * 6 + 3, none⟩ = some (.int .i64 x.serial) ∧ w'.cell? ⟨b1, o1 + i * 6 + 4, none⟩ = some (.int .i64 x.kind) ∧ w'.cell? ⟨b1, o1 + i * 6 + 5, none⟩ = some (.string (bs x.owner)) ∧ w'.cell? ⟨b2, o2 + q * 6, none⟩ = some (.int .i64 y.gate) ∧ w'.cell? ⟨b2, o2 + q * 6 + 1, none⟩ = some (.int .i64 y.number) ∧ w'.cell? ⟨b2, o2 + q * 6 + 2, none⟩ = some (.int .i64 y.time) ∧ w'.cell? ⟨b2, o2 + q * 6 + 3, none⟩ = some (.int .i64 y.serial) ∧ w'.cell? ⟨b2, o2 + q * 6 + 4, none⟩ = some (.int .i64 y.kind) ∧ w'.cell? ⟨b2, o2 + q * 6 + 5, none⟩ = some (.string (bs y.owner))) (by kernel_rfl) (HKK.out wr (Below.refl _ _)) (fun hHeld => ?_)
          refine take_at (i := 0) (v := ?_) 15 rfl rfl (by kernel_rfl) (by kernel_rfl) (by kernel_rfl) (fun _ _ _ h => h) (Or.inl ⟨by rfl, ?_⟩) (by assumption) ?_
          rotate_left
          · intro w hSw; go_simp <;> with_reducible rfl
          try simp only [Act.put, List.setIfInBounds_toArray, List.set_cons_zero, List.set_cons_succ]
          refine take_at (i := 1) (v := ?_) 16 rfl rfl (by kernel_rfl) (by kernel_rfl) (by kernel_rfl) (fun _ _ _ h => h) (Or.inl ⟨by rfl, ?_⟩) (by assumption) ?_
          rotate_left
          · intro w hSw; go_simp <;> with_reducible rfl
          try simp only [Act.put, List.setIfInBounds_toArray, List.set_cons_zero, List.set_cons_succ]
          refine take_at (i := 2) (v := ?_) 17 rfl rfl (by kernel_rfl) (by kernel_rfl) (by kernel_rfl) (fun _ _ _ h => h) (Or.inl ⟨by rfl, ?_⟩) (by assumption) ?_
          rotate_left
          · intro w hSw; go_simp <;> with_reducible rfl
          try simp only [Act.put, List.setIfInBounds_toArray, List.set_cons_zero, List.set_cons_succ]
          refine take_at (i := 3) (v := ?_) 18 rfl rfl (by kernel_rfl) (by kernel_rfl) (by kernel_rfl) (fun _ _ _ h => h) (Or.inl ⟨by rfl, ?_⟩) (by assumption) ?_
          rotate_left
          · intro w hSw; go_simp <;> with_reducible rfl
          try simp only [Act.put, List.setIfInBounds_toArray, List.set_cons_zero, List.set_cons_succ]
          refine take_at (i := 4) (v := ?_) 19 rfl rfl (by kernel_rfl) (by kernel_rfl) (by kernel_rfl) (fun _ _ _ h => h) (Or.inl ⟨by rfl, ?_⟩) (by assumption) ?_
          rotate_left
          · intro w hSw; go_simp <;> with_reducible rfl
          try simp only [Act.put, List.setIfInBounds_toArray, List.set_cons_zero, List.set_cons_succ]
          refine take_at (i := 5) (v := ?_) 20 rfl rfl (by kernel_rfl) (by kernel_rfl) (by kernel_rfl) (fun _ _ _ h => h) (Or.inl ⟨by rfl, ?_⟩) (by assumption) ?_
          rotate_left
          · intro w hSw; go_simp <;> with_reducible rfl
          try simp only [Act.put, List.setIfInBounds_toArray, List.set_cons_zero, List.set_cons_succ]
          refine take_at (i := 6) (v := ?_) 21 rfl rfl (by kernel_rfl) (by kernel_rfl) (by kernel_rfl) (fun _ _ _ h => h) (Or.inl ⟨by rfl, ?_⟩) (by assumption) ?_
          rotate_left
          · intro w hSw; go_simp <;> with_reducible rfl
          try simp only [Act.put, List.setIfInBounds_toArray, List.set_cons_zero, List.set_cons_succ]
          refine take_at (i := 7) (v := ?_) 22 rfl rfl (by kernel_rfl) (by kernel_rfl) (by kernel_rfl) (fun _ _ _ h => h) (Or.inl ⟨by rfl, ?_⟩) (by assumption) ?_
          rotate_left
          · intro w hSw; go_simp <;> with_reducible rfl
          try simp only [Act.put, List.setIfInBounds_toArray, List.set_cons_zero, List.set_cons_succ]
          refine take_at (i := 8) (v := ?_) 23 rfl rfl (by kernel_rfl) (by kernel_rfl) (by kernel_rfl) (fun _ _ _ h => h) (Or.inl ⟨by rfl, ?_⟩) (by assumption) ?_
          rotate_left
          · intro w hSw; go_simp <;> with_reducible rfl
          try simp only [Act.put, List.setIfInBounds_toArray, List.set_cons_zero, List.set_cons_succ]
          refine take_at (i := 9) (v := .int .i64 (q : Int)) 24 rfl rfl (by kernel_rfl) (by kernel_rfl) (by kernel_rfl) (fun _ _ _ h => h) (Or.inl ⟨by rfl, ?_⟩) (by assumption) ?_
          · intro w' hSw
            go_simp
            exact i64_in _ (by omega)
          try simp only [Act.put, List.setIfInBounds_toArray, List.set_cons_zero, List.set_cons_succ]
          refine take_at (i := 10) (v := ?_) 25 rfl rfl (by kernel_rfl) (by kernel_rfl) (by kernel_rfl) (fun _ _ _ h => h) (Or.inl ⟨by rfl, ?_⟩) (by assumption) ?_
          rotate_left
          · intro w hSw; go_simp <;> with_reducible rfl
          try simp only [Act.put, List.setIfInBounds_toArray, List.set_cons_zero, List.set_cons_succ]
          refine take_at (i := 11) (v := ?_) 26 rfl rfl (by kernel_rfl) (by kernel_rfl) (by kernel_rfl) (fun _ _ _ h => h) (Or.inl ⟨by rfl, ?_⟩) (by assumption) ?_
          rotate_left
          · intro w hSw; go_simp <;> with_reducible rfl
          try simp only [Act.put, List.setIfInBounds_toArray, List.set_cons_zero, List.set_cons_succ]
          refine wpAnyH_ready (rs := [12]) (by kernel_rfl) (by simp) ?_
          refine AllReadyH.cons rfl (fun K' hK => ?_) AllReadyH.nil
          go_simp
          refine (less_any x y wr.drew).mono ?_
          rintro e w8 ⟨rfl, hb8⟩
          have hb9 : Below wr.heap.size wr w8 := (Below.refl _ wr).drew.trans hb8
          rw [← HT1.out]
          go_simp
          refine hK.out _ _ (HKK.out _ hb9) (fun hHeld => ?_)
          clear hK K'
          try simp only [Act.put, List.setIfInBounds_toArray, List.set_cons_zero, List.set_cons_succ]
          refine take_at (i := 13) (v := ?_) 28 rfl rfl (by kernel_rfl) (by kernel_rfl) (by kernel_rfl) (fun _ _ _ h => h) (Or.inl ⟨by rfl, ?_⟩) (by assumption) ?_
          rotate_left
          · intro w hSw; go_simp <;> with_reducible rfl
          try simp only [Act.put, List.setIfInBounds_toArray, List.set_cons_zero, List.set_cons_succ]
          refine wpAnyH_done (by kernel_rfl) ?_ _
          go_wp2_with fail
          go_meet
          case rel => exact ⟨rfl, hb9⟩
    · have hi2 : i = l.length := by omega
      subst hi2
      rw [List.take_length] at HRO
      go_wp2_with fail
      go_ret
      exact ⟨_, rfl, HRO.out, HB.out⟩

set_option maxRecDepth 10000 in
set_option maxHeartbeats 1600000 in
theorem rmerge_any (ra : Option Addr) (n c : Nat) (Ls : List (List Scn)) (w : World) (h : LogsAt w ra n Ls) (hn : n ≤ 1000) (hs : sumL Ls ≤ 1000) :
    Calls Try.prog 14 #[.slice ra n c] w fun e w' => ∃ v, e = .returned v ∧ w'.ownsRow w.heap.size 39 6 v (mergeS Ls.flatten).length (flat ScnE (mergeS Ls.flatten)) ∧ Below w.heap.size w w' := by
  have HL := Lib.hid h
  have hlen := h.1
  clear h
  go_enter Try.func14, Try.ntmps14
  go_wp2_with fail
  go_loopw [3, 4] (fun v3 v4 wx => ∃ j : Nat, v4 = .int .i64 j ∧ j ≤ n ∧ Hid (wx.ownsRow w.heap.size 39 6 v3 (Ls.take j).flatten.length (flat ScnE (Ls.take j).flatten)) ∧ Hid (Below w.heap.size w wx)) (fun _ v4 _ => n - (intOf v4).toNat)
  case atStart => exact ⟨0, rfl, Nat.zero_le _, ⟨rfl, Or.inl ⟨rfl, rfl⟩⟩, Below.refl _ _⟩
  case round =>
    obtain ⟨j, rfl, hj, HO, HB⟩ := hrel
    by_cases hlt2 : j < n
    · obtain ⟨b, o, u, rfl, c0, hsc⟩ := (HL.out.below HB.out).2 j hlt2
      have HSC := Lib.hid hsc
      have hf := flat_take (Ls := Ls) (i := j) (by omega)
      have hfl := flat_le Ls (j + 1)
      rw [hf, List.length_append] at hfl
      have HF := Lib.hid hf
      clear hsc hf
      go_wp2_with (at_builtin; refine wpList_append_scs rfl (.tmp 11) (.tmp 15) rfl rfl rfl HO.out HSC.out (by omega) HB.out.size ?_; intro v' w4 ho4 hg4 _; have HO4 := Lib.hid ho4; have HG4 := Lib.hid hg4; clear ho4 hg4)
      go_roundw
      case rel => exact ⟨j + 1, by go_num, hlt2, (by show World.ownsRow _ _ _ _ _ _ _; rw [HF.out, List.length_append]; exact HO4.out), HB.out.grown HG4.out HB.out.size (fun k hk => (HO.out.lt k hk).1)⟩
      case measure => simp [intOf]; omega
    · have hj' : j = n := by omega
      subst hj'
      rw [List.take_of_length_le (by omega)] at HO
      obtain ⟨oa, oc, rfl, hcap, _, hoa, hor⟩ := row_slice HO.out
      have HOR := Lib.hid hor
      clear hor
      have hs2 : Ls.flatten.length ≤ 1000 := hs
      obtain ⟨F, hF⟩ : ∃ F, F = Ls.flatten := ⟨_, rfl⟩
      rw [← hF] at HOR hs2 ⊢
      have HFD := Lib.hid hF
      clear hF HO hcap
      go_wp2_with fail
      refine (rscans_any _ oa _ oc F HOR.out hs2).mono ?_
      rintro e w5 ⟨v5, rfl, ho, hb⟩
      have HO5 := Lib.hid (row_mono ho HB.out.size)
      have HB5 := Lib.hid (HB.out.trans (hb.mono HB.out.size))
      clear ho hb
      go_wp2_with fail
      go_ret
      exact ⟨_, rfl, by rw [← HFD.out]; exact HO5.out, HB5.out⟩
end Go.Proofs.Ytpmoelkblngamaa
