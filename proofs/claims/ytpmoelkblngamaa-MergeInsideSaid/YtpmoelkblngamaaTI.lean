/- merge: MergeInside: the walk (under way). -/
import Derived.Test.YtpmoelkblngamaaD6
import Derived.Test.YtpmoelkblngamaaMB
namespace Go.Proofs.Ytpmoelkblngamaa
open Go.RowKit Go.IntWalk Go.Maps Go.WideMaps

set_option maxRecDepth 100000 in
set_option maxHeartbeats 3200000 in
theorem inside_law (w : World) (la : Option Addr) (n c : Nat) (l : List Scn) (x : Scn) (h : Recs ScnE w la n l) (hn : n ≤ 9223372036854775807) (hc : la = none → c = 0) (ho : ∀ s ∈ l, s.owner.length ≤ 9223372036854775807) (hwf : ∀ s ∈ l, WfS s) (hox : x.owner.length ≤ 9223372036854775807) (hwx : WfS x) :
    Calls Try.prog 9 #[.slice la n c, .agg #[.int .i64 x.gate, .int .i64 x.number, .int .i64 x.time, .int .i64 x.serial, .int .i64 x.kind, .string (bs x.owner)]] w fun e w' => e = .returned (.bool true) ∧ Below w.heap.size w w' := by
  have HL := Lib.hid h
  have HO := Lib.hid ho
  have HOX := Lib.hid hox
  have HWF := Lib.hid hwf
  have HWX := Lib.hid hwx
  clear h ho hox hwf hwx
  go_enter Try.func9, Try.ntmps9
  go_upto_region 1 with fail
  have hA := Joins.below_alloc1 w (.cells #[.int .i64 x.gate, .int .i64 x.number, .int .i64 x.time, .int .i64 x.serial, .int .i64 x.kind, .string (bs x.owner)] 39)
  have HX1 : Hid ((w.alloc (.cells #[.int .i64 x.gate, .int .i64 x.number, .int .i64 x.time, .int .i64 x.serial, .int .i64 x.kind, .string (bs x.owner)] 39)).heap[w.heap.size]? = some (.cells #[.int .i64 x.gate, .int .i64 x.number, .int .i64 x.time, .int .i64 x.serial, .int .i64 x.kind, .string (bs x.owner)] 39 (0, 0))) := World.alloc_heap_new w _
  have HB1 := Lib.hid hA
  have HL1 := Lib.hid (HL.out.below hA)
  clear hA
  generalize w.alloc (.cells #[.int .i64 x.gate, .int .i64 x.number, .int .i64 x.time, .int .i64 x.serial, .int .i64 x.kind, .string (bs x.owner)] 39) = w1 at *
  go_wp2_with fail
  refine (head_any w1).mono ?_
  rintro e w2 ⟨rfl, hb⟩
  have HB2 := Lib.hid (HB1.out.trans (hb.mono HB1.out.size))
  have HL2 := Lib.hid (HL1.out.below hb)
  have HX2 := Lib.hid ((hb.block _ (lt_of_block HX1.out)).trans HX1.out)
  clear hb HB1 HL1 HX1
  go_wp2_with fail
  refine (few_any la n c l 40 w2 HL2.out hn HO.out).mono ?_
  rintro e w3 ⟨rfl, rfl⟩
  have x0 : w2.cell? ⟨w.heap.size, 0, none⟩ = some (.int .i64 x.gate) := cell_of_row (j := 0) _ _ _ _ _ HX2.out
  have x1 : w2.cell? ⟨w.heap.size, 1, none⟩ = some (.int .i64 x.number) := cell_of_row (j := 1) _ _ _ _ _ HX2.out
  have x2 : w2.cell? ⟨w.heap.size, 2, none⟩ = some (.int .i64 x.time) := cell_of_row (j := 2) _ _ _ _ _ HX2.out
  have x3 : w2.cell? ⟨w.heap.size, 3, none⟩ = some (.int .i64 x.serial) := cell_of_row (j := 3) _ _ _ _ _ HX2.out
  have x4 : w2.cell? ⟨w.heap.size, 4, none⟩ = some (.int .i64 x.kind) := cell_of_row (j := 4) _ _ _ _ _ HX2.out
  have x5 : w2.cell? ⟨w.heap.size, 5, none⟩ = some (.string (bs x.owner)) := cell_of_row (j := 5) _ _ _ _ _ HX2.out
  cases hf : fewB l 40
  · go_wp2_with fail
    go_ret
    exact ⟨rfl, HB2.out⟩
  · go_wp2_with fail
    have hA := Joins.below_alloc1 w2 (.cells #[.int .i64 x.gate, .int .i64 x.number, .int .i64 x.time, .int .i64 x.serial, .int .i64 x.kind, .string (bs x.owner)] 39)
    have HN1 : Hid (RecRow ScnE (w2.alloc (.cells #[.int .i64 x.gate, .int .i64 x.number, .int .i64 x.time, .int .i64 x.serial, .int .i64 x.kind, .string (bs x.owner)] 39)) w2.heap.size 39 [x]) := rec_new _ (World.alloc_heap_new w2 _)
    refine (few_any (some ⟨w2.heap.size, 0, none⟩) 1 1 [x] 1 _ HN1.out.recs (by decide) (fun s hs => by rw [List.mem_singleton] at hs; rw [hs]; exact HOX.out)).mono ?_
    rintro e w3 ⟨rfl, rfl⟩
    have HL3 := Lib.hid (HL2.out.below hA)
    have HX3 := Lib.hid ((hA.block _ (lt_of_block HX2.out)).trans HX2.out)
    have HB3 := Lib.hid (HB2.out.trans (hA.mono HB2.out.size))
    clear hA HN1 HL2 HX2 HB2 x0 x1 x2 x3 x4 x5
    generalize w2.alloc (.cells #[.int .i64 x.gate, .int .i64 x.number, .int .i64 x.time, .int .i64 x.serial, .int .i64 x.kind, .string (bs x.owner)] 39) = w3 at *
    cases hfx : fewB [x] 1
    · go_wp2_with fail
      go_ret
      exact ⟨rfl, HB3.out⟩
    · have hn40 : n ≤ 40 := by have h1 := (fewB_iff.mp hf).2; have h2 := HL3.out.1; omega
      go_wp2_with fail
      go_loopw [6] (fun v6 wr => ∃ i : Nat, v6 = .int .i64 i ∧ i ≤ n ∧ Hid (Below w3.heap.size w3 wr) ∧ Hid (∀ y ∈ l.take i, KLt KS y x)) (fun v6 _ => n - (intOf v6).toNat)
      case atStart => exact ⟨0, rfl, Nat.zero_le _, Below.refl _ _, fun y hy => by cases hy⟩
      case round =>
        obtain ⟨i, rfl, hi, HB, HK⟩ := hrel
        have hlen := HL3.out.1
        by_cases hlt : i < n
        · have h1 : i < l.length := by omega
          obtain ⟨b1, o1, rfl, c0, c1, c2, c3, c4, c5⟩ := scn_at (HL3.out.below HB.out) i hlt h1
          have HT := Lib.hid (List.take_succ_eq_append_getElem h1)
          have HXr : Hid (wr.heap[w.heap.size]? = some (.cells #[.int .i64 x.gate, .int .i64 x.number, .int .i64 x.time, .int .i64 x.serial, .int .i64 x.kind, .string (bs x.owner)] 39 (0, 0))) := (HB.out.block _ (lt_of_block HX3.out)).trans HX3.out
          generalize l[i] = y at *
          clear h1
          have HKK : Hid (∀ w' : World, Below wr.heap.size wr w' → w'.cell? ⟨w.heap.size, 0, none⟩ = some (.int .i64 x.gate) ∧ w'.cell? ⟨w.heap.size, 1, none⟩ = some (.int .i64 x.number) ∧ w'.cell? ⟨w.heap.size, 2, none⟩ = some (.int .i64 x.time) ∧ w'.cell? ⟨w.heap.size, 3, none⟩ = some (.int .i64 x.serial) ∧ w'.cell? ⟨w.heap.size, 4, none⟩ = some (.int .i64 x.kind) ∧ w'.cell? ⟨w.heap.size, 5, none⟩ = some (.string (bs x.owner)) ∧ w'.cell? ⟨b1, o1 + i * 6, none⟩ = some (.int .i64 y.gate) ∧ w'.cell? ⟨b1, o1 + i * 6 + 1, none⟩ = some (.int .i64 y.number) ∧ w'.cell? ⟨b1, o1 + i * 6 + 2, none⟩ = some (.int .i64 y.time) ∧ w'.cell? ⟨b1, o1 + i * 6 + 3, none⟩ = some (.int .i64 y.serial) ∧ w'.cell? ⟨b1, o1 + i * 6 + 4, none⟩ = some (.int .i64 y.kind) ∧ w'.cell? ⟨b1, o1 + i * 6 + 5, none⟩ = some (.string (bs y.owner))) := fun w' hb =>
            ⟨Below.cell_of hb (cell_of_row (j := 0) _ _ _ _ _ HXr.out), Below.cell_of hb (cell_of_row (j := 1) _ _ _ _ _ HXr.out), Below.cell_of hb (cell_of_row (j := 2) _ _ _ _ _ HXr.out), Below.cell_of hb (cell_of_row (j := 3) _ _ _ _ _ HXr.out), Below.cell_of hb (cell_of_row (j := 4) _ _ _ _ _ HXr.out), Below.cell_of hb (cell_of_row (j := 5) _ _ _ _ _ HXr.out), Below.cell_of hb c0, Below.cell_of hb c1, Below.cell_of hb c2, Below.cell_of hb c3, Below.cell_of hb c4, Below.cell_of hb c5⟩
          clear c0 c1 c2 c3 c4 c5
          have HLS := Lib.hid (less_any y x wr.drew)
          obtain ⟨d, hd⟩ : ∃ d, d = decide (KLt KS y x) := ⟨_, rfl⟩
          rw [← hd] at HLS
          have HD := Lib.hid hd
          clear hd
          go_upto_region 7 with fail
          refine wp_region_held_drew (S := fun w' => w'.cell? ⟨w.heap.size, 0, none⟩ = some (.int .i64 x.gate) ∧ w'.cell? ⟨w.heap.size, 1, none⟩ = some (.int .i64 x.number) ∧ w'.cell? ⟨w.heap.size, 2, none⟩ = some (.int .i64 x.time) ∧ w'.cell? ⟨w.heap.size, 3, none⟩ = some (.int .i64 x.serial) ∧ w'.cell? ⟨w.heap.size, 4, none⟩ = some (.int .i64 x.kind) ∧ w'.cell? ⟨w.heap.size, 5, none⟩ = some (.string (bs x.owner)) ∧ w'.cell? ⟨b1, o1 + i * 6, none⟩ = some (.int .i64 y.gate) ∧ w'.cell? ⟨b1, o1 + i * 6 + 1, none⟩ = some (.int .i64 y.number) ∧ w'.cell? ⟨b1, o1 + i * 6 + 2, none⟩ = some (.int .i64 y.time) ∧ w'.cell? ⟨b1, o1 + i * 6 + 3, none⟩ = some (.int .i64 y.serial) ∧ w'.cell? ⟨b1, o1 + i * 6 + 4, none⟩ = some (.int .i64 y.kind) ∧ w'.cell? ⟨b1, o1 + i * 6 + 5, none⟩ = some (.string (bs y.owner))) (by kernel_rfl) (HKK.out wr (Below.refl _ _)) (fun hHeld => ?_)
          refine take_at (i := 0) (v := ?_) 29 rfl rfl (by kernel_rfl) (by kernel_rfl) (by kernel_rfl) (fun _ _ _ h => h) (Or.inl ⟨by rfl, ?_⟩) (by assumption) ?_
          rotate_left
          · intro w hSw; go_simp <;> with_reducible rfl
          try simp only [Act.put, List.setIfInBounds_toArray, List.set_cons_zero, List.set_cons_succ]
          refine take_at (i := 1) (v := ?_) 30 rfl rfl (by kernel_rfl) (by kernel_rfl) (by kernel_rfl) (fun _ _ _ h => h) (Or.inl ⟨by rfl, ?_⟩) (by assumption) ?_
          rotate_left
          · intro w hSw; go_simp <;> with_reducible rfl
          try simp only [Act.put, List.setIfInBounds_toArray, List.set_cons_zero, List.set_cons_succ]
          refine take_at (i := 2) (v := ?_) 31 rfl rfl (by kernel_rfl) (by kernel_rfl) (by kernel_rfl) (fun _ _ _ h => h) (Or.inl ⟨by rfl, ?_⟩) (by assumption) ?_
          rotate_left
          · intro w hSw; go_simp <;> with_reducible rfl
          try simp only [Act.put, List.setIfInBounds_toArray, List.set_cons_zero, List.set_cons_succ]
          refine take_at (i := 3) (v := ?_) 32 rfl rfl (by kernel_rfl) (by kernel_rfl) (by kernel_rfl) (fun _ _ _ h => h) (Or.inl ⟨by rfl, ?_⟩) (by assumption) ?_
          rotate_left
          · intro w hSw; go_simp <;> with_reducible rfl
          try simp only [Act.put, List.setIfInBounds_toArray, List.set_cons_zero, List.set_cons_succ]
          refine take_at (i := 4) (v := ?_) 33 rfl rfl (by kernel_rfl) (by kernel_rfl) (by kernel_rfl) (fun _ _ _ h => h) (Or.inl ⟨by rfl, ?_⟩) (by assumption) ?_
          rotate_left
          · intro w hSw; go_simp <;> with_reducible rfl
          try simp only [Act.put, List.setIfInBounds_toArray, List.set_cons_zero, List.set_cons_succ]
          refine wpAnyH_ready (rs := [5]) (by kernel_rfl) (by simp) ?_
          refine AllReadyH.cons rfl (fun K' hK => ?_) AllReadyH.nil
          go_simp
          refine HLS.out.mono ?_
          rintro e w4 ⟨rfl, hb4⟩
          have hb5 : Below wr.heap.size wr w4 := (Below.refl _ wr).drew.trans hb4
          go_simp
          refine hK.out _ _ (HKK.out _ hb5) (fun hHeld => ?_)
          clear hK K'
          try simp only [Act.put, List.setIfInBounds_toArray, List.set_cons_zero, List.set_cons_succ]
          refine take_at (i := 6) (v := ?_) 35 rfl rfl (by kernel_rfl) (by kernel_rfl) (by kernel_rfl) (fun _ _ _ h => h) (Or.inl ⟨by rfl, ?_⟩) (by assumption) ?_
          rotate_left
          · intro w hSw; go_simp <;> with_reducible rfl
          try simp only [Act.put, List.setIfInBounds_toArray, List.set_cons_zero, List.set_cons_succ]
          refine wpAnyH_done (by kernel_rfl) ?_ _
          have HB4 := Lib.hid (HB.out.trans (hb5.mono HB.out.size))
          clear hb4 hb5 hHeld HKK HLS
          cases d
          · go_wp2_with fail
            go_ret
            exact ⟨rfl, HB3.out.trans (HB4.out.mono HB3.out.size)⟩
          · have HK2 : Hid (∀ z ∈ l.take (i + 1), KLt KS z x) := fun z hz => by
              rw [HT.out, List.mem_append, List.mem_singleton] at hz
              rcases hz with hz | rfl
              · exact HK.out z hz
              · exact of_decide_eq_true HD.out.symm
            go_wp2_with fail
            go_roundw
            case rel => exact ⟨i + 1, by go_num, hlt, HB4.out, HK2⟩
            case measure => simp [intOf]; omega
        · have HALL : Hid (∀ z ∈ l, KLt KS z x) := fun z hz => HK.out z (by rw [List.take_of_length_le (by omega)]; exact hz)
          have HS : Hid (Scs wr (.slice la n c) l) := by
            have hl := HL3.out.below HB.out
            show Scs _ _ _
            subst hlen
            exact ⟨la, c, rfl, hl, hc⟩
          clear HK
          go_wp2_with fail
          refine (inside_any wr _ l HS.out (by omega) (Nat.le_trans (mergeS_len l) (by omega)) HWF.out).mono ?_
          rintro e w5 ⟨v5, rfl, hio, hb5⟩
          obtain ⟨pa, pc, rfl, hwas⟩ := Ints.of_own hio
          have HWAS := Lib.hid hwas
          have HB5 := Lib.hid (HB.out.trans (hb5.mono HB.out.size))
          have HS5 := Lib.hid (HS.out.below hb5)
          clear hio hwas hb5 HS HB
          go_upto_region 10 with fail
          have HX5 := Lib.hid ((HB5.out.block _ (lt_of_block HX3.out)).trans HX3.out)
          have HKX : Hid (∀ w' : World, Below w5.heap.size w5 w' → w'.cell? ⟨w.heap.size, 0, none⟩ = some (.int .i64 x.gate) ∧ w'.cell? ⟨w.heap.size, 1, none⟩ = some (.int .i64 x.number) ∧ w'.cell? ⟨w.heap.size, 2, none⟩ = some (.int .i64 x.time) ∧ w'.cell? ⟨w.heap.size, 3, none⟩ = some (.int .i64 x.serial) ∧ w'.cell? ⟨w.heap.size, 4, none⟩ = some (.int .i64 x.kind) ∧ w'.cell? ⟨w.heap.size, 5, none⟩ = some (.string (bs x.owner))) := fun w' hb =>
            ⟨Below.cell_of hb (cell_of_row (j := 0) _ _ _ _ _ HX5.out), Below.cell_of hb (cell_of_row (j := 1) _ _ _ _ _ HX5.out), Below.cell_of hb (cell_of_row (j := 2) _ _ _ _ _ HX5.out), Below.cell_of hb (cell_of_row (j := 3) _ _ _ _ _ HX5.out), Below.cell_of hb (cell_of_row (j := 4) _ _ _ _ _ HX5.out), Below.cell_of hb (cell_of_row (j := 5) _ _ _ _ _ HX5.out)⟩
          go_cut [8] (fun v8 wx => ∃ (pb : Option Addr) (pd : Nat), v8 = .slice pb (insideS (l ++ [x])).length pd ∧ Hid (Ints wx pb (insideS (l ++ [x])).length (insideS (l ++ [x]))) ∧ Hid (Below w5.heap.size w5 wx))
          case rest =>
            obtain ⟨pb, pd, rfl, HNOW, HB6⟩ := hcut
            have HFAR := Lib.hid (inside_far HALL.out)
            have HSTR := Lib.hid (strict_ints (inside_is (l ++ [x])).1)
            have HLW := Lib.hid (Nat.le_trans (insideS_len l) (show l.length ≤ 40 by omega))
            have HLN := Lib.hid (Nat.le_trans (insideS_len (l ++ [x])) (show (l ++ [x]).length ≤ 41 by simp; omega))
            have HX6 := Lib.hid (HKX.out wc HB6.out)
            have HWAS6 := Lib.hid (HWAS.out.below HB6.out)
            generalize insideS (l ++ [x]) = N at *
            generalize insideS l = L at *
            have hLw : L.length ≤ 40 := HLW.out
            have hLn : N.length ≤ 41 := HLN.out
            clear HS5 HALL HKX HWF HWX HO HOX HL3 HX3 HX5 HWAS
            go_upto_region 11 with fail
            go_wp2_with fail
            go_loopw [9] (fun v9 wr => ∃ i : Nat, v9 = .int .i64 i ∧ i ≤ L.length ∧ Hid (Below wc.heap.size wc wr)) (fun v9 _ => L.length - (intOf v9).toNat)
            case atStart => exact ⟨0, rfl, Nat.zero_le _, Below.refl _ _⟩
            case round =>
              obtain ⟨i, rfl, hi, HBr⟩ := hrel
              by_cases hlt : i < L.length
              · obtain ⟨b1, o1, rfl, p0⟩ := (HWAS6.out.below HBr.out).2 i hlt
                obtain ⟨x0, x1, x2, x3, x4, x5⟩ := HX6.out
                have x3 := Below.cell_of HBr.out x3
                clear x0 x1 x2 x4 x5
                have HY : Hid (ix L i ∈ L) := ix_mem hlt
                have HNr := Lib.hid (HNOW.out.below HBr.out)
                generalize ix L i = y at *
                have HKK : Hid (∀ w' : World, Below wr.heap.size wr w' → w'.cell? ⟨w.heap.size, 3, none⟩ = some (.int .i64 x.serial) ∧ w'.cell? ⟨b1, o1 + i, none⟩ = some (.int .i64 y)) := fun w' hb => ⟨Below.cell_of hb x3, Below.cell_of hb p0⟩
                clear x3 p0
                by_cases h1 : y = x.serial
                · have hb : (y != x.serial) = false := by simp [h1]
                  clear h1
                  go_upto_region 14 with fail
                  refine wp_region_held_drew (S := fun w' => w'.cell? ⟨w.heap.size, 3, none⟩ = some (.int .i64 x.serial) ∧ w'.cell? ⟨b1, o1 + i, none⟩ = some (.int .i64 y)) (by kernel_rfl) (HKK.out wr (Below.refl _ _)) (fun hHeld => ?_)
                  refine take_at (i := 0) (v := ?_) 52 rfl rfl (by kernel_rfl) (by kernel_rfl) (by kernel_rfl) (fun _ _ _ h => h) (Or.inl ⟨by rfl, ?_⟩) (by assumption) ?_
                  rotate_left
                  · intro w hSw; go_simp <;> with_reducible rfl
                  try simp only [Act.put, List.setIfInBounds_toArray, List.set_cons_zero, List.set_cons_succ]
                  refine take_at (i := 1) (v := ?_) 53 rfl rfl (by kernel_rfl) (by kernel_rfl) (by kernel_rfl) (fun _ _ _ h => h) (Or.inl ⟨by rfl, ?_⟩) (by assumption) ?_
                  rotate_left
                  · intro w hSw; go_simp <;> with_reducible rfl
                  try simp only [Act.put, List.setIfInBounds_toArray, List.set_cons_zero, List.set_cons_succ]
                  refine take_at (i := 2) (v := ?_) 54 rfl rfl (by kernel_rfl) (by kernel_rfl) (by kernel_rfl) (fun _ _ _ h => h) (Or.inl ⟨by rfl, ?_⟩) (by assumption) ?_
                  rotate_left
                  · intro w hSw; go_simp <;> with_reducible rfl
                  try simp only [Act.put, List.setIfInBounds_toArray, List.set_cons_zero, List.set_cons_succ]
                  refine take_at (i := 3) (v := ?_) 55 rfl rfl (by kernel_rfl) (by kernel_rfl) (by kernel_rfl) (fun _ _ _ h => h) (Or.inl ⟨by rfl, ?_⟩) (by assumption) ?_
                  rotate_left
                  · intro w hSw; go_simp <;> with_reducible rfl
                  try simp only [Act.put, List.setIfInBounds_toArray, List.set_cons_zero, List.set_cons_succ]
                  refine take_at (i := 4) (v := ?_) 56 rfl rfl (by kernel_rfl) (by kernel_rfl) (by kernel_rfl) (fun _ _ _ h => h) (Or.inl ⟨by rfl, ?_⟩) (by assumption) ?_
                  rotate_left
                  · intro w hSw; go_simp <;> with_reducible rfl
                  try simp only [Act.put, List.setIfInBounds_toArray, List.set_cons_zero, List.set_cons_succ]
                  refine take_at (i := 5) (v := ?_) 57 rfl rfl (by kernel_rfl) (by kernel_rfl) (by kernel_rfl) (fun _ _ _ h => h) (Or.inl ⟨by rfl, ?_⟩) (by assumption) ?_
                  rotate_left
                  · intro w hSw; go_simp <;> with_reducible rfl
                  try simp only [Act.put, List.setIfInBounds_toArray, List.set_cons_zero, List.set_cons_succ]
                  refine take_at (i := 6) (v := ?_) 58 rfl rfl (by kernel_rfl) (by kernel_rfl) (by kernel_rfl) (fun _ _ _ h => h) (Or.inl ⟨by rfl, ?_⟩) (by assumption) ?_
                  rotate_left
                  · intro w hSw; go_simp <;> with_reducible rfl
                  try simp only [Act.put, List.setIfInBounds_toArray, List.set_cons_zero, List.set_cons_succ]
                  refine take_at (i := 7) (v := ?_) 59 rfl rfl (by kernel_rfl) (by kernel_rfl) (by kernel_rfl) (fun _ _ _ h => h) (Or.inl ⟨by rfl, ?_⟩) (by assumption) ?_
                  rotate_left
                  · intro w hSw; go_simp <;> with_reducible rfl
                  try simp only [Act.put, List.setIfInBounds_toArray, List.set_cons_zero, List.set_cons_succ]
                  refine take_at (i := 8) (v := undef) 60 rfl rfl (by kernel_rfl) (by kernel_rfl) (by kernel_rfl) (fun _ _ _ h => h) (Or.inr ⟨by rfl, rfl⟩) (by assumption) ?_
                  try simp only [Act.put, List.setIfInBounds_toArray, List.set_cons_zero, List.set_cons_succ]
                  refine take_at (i := 9) (v := undef) 61 rfl rfl (by kernel_rfl) (by kernel_rfl) (by kernel_rfl) (fun _ _ _ h => h) (Or.inr ⟨by rfl, rfl⟩) (by assumption) ?_
                  try simp only [Act.put, List.setIfInBounds_toArray, List.set_cons_zero, List.set_cons_succ]
                  refine take_at (i := 10) (v := undef) 62 rfl rfl (by kernel_rfl) (by kernel_rfl) (by kernel_rfl) (fun _ _ _ h => h) (Or.inr ⟨by rfl, rfl⟩) (by assumption) ?_
                  try simp only [Act.put, List.setIfInBounds_toArray, List.set_cons_zero, List.set_cons_succ]
                  refine take_at (i := 11) (v := undef) 63 rfl rfl (by kernel_rfl) (by kernel_rfl) (by kernel_rfl) (fun _ _ _ h => h) (Or.inr ⟨by rfl, rfl⟩) (by assumption) ?_
                  try simp only [Act.put, List.setIfInBounds_toArray, List.set_cons_zero, List.set_cons_succ]
                  refine take_at (i := 12) (v := undef) 64 rfl rfl (by kernel_rfl) (by kernel_rfl) (by kernel_rfl) (fun _ _ _ h => h) (Or.inr ⟨by rfl, rfl⟩) (by assumption) ?_
                  try simp only [Act.put, List.setIfInBounds_toArray, List.set_cons_zero, List.set_cons_succ]
                  refine take_at (i := 13) (v := undef) 65 rfl rfl (by kernel_rfl) (by kernel_rfl) (by kernel_rfl) (fun _ _ _ h => h) (Or.inr ⟨by rfl, rfl⟩) (by assumption) ?_
                  try simp only [Act.put, List.setIfInBounds_toArray, List.set_cons_zero, List.set_cons_succ]
                  refine take_at (i := 14) (v := undef) 66 rfl rfl (by kernel_rfl) (by kernel_rfl) (by kernel_rfl) (fun _ _ _ h => h) (Or.inr ⟨by rfl, rfl⟩) (by assumption) ?_
                  try simp only [Act.put, List.setIfInBounds_toArray, List.set_cons_zero, List.set_cons_succ]
                  refine take_at (i := 15) (v := ?_) 67 rfl rfl (by kernel_rfl) (by kernel_rfl) (by kernel_rfl) (fun _ _ _ h => h) (Or.inl ⟨by rfl, ?_⟩) (by assumption) ?_
                  rotate_left
                  · intro w hSw; go_simp <;> with_reducible rfl
                  try simp only [Act.put, List.setIfInBounds_toArray, List.set_cons_zero, List.set_cons_succ]
                  refine wpAnyH_done (by kernel_rfl) ?_ _
                  clear hHeld HKK
                  go_wp2_with fail
                  go_roundw
                  case rel => exact ⟨i + 1, by go_num, hlt, HBr.out.drew⟩
                  case measure => simp [intOf]; omega
                · have hb : (y != x.serial) = true := by simp [h1]
                  have HIN : Hid (decide (y ∈ N) = true) := decide_eq_true ((HFAR.out.1 y h1).mpr HY.out)
                  clear h1
                  go_upto_region 14 with fail
                  refine wp_region_held_drew (S := fun w' => w'.cell? ⟨w.heap.size, 3, none⟩ = some (.int .i64 x.serial) ∧ w'.cell? ⟨b1, o1 + i, none⟩ = some (.int .i64 y)) (by kernel_rfl) (HKK.out wr (Below.refl _ _)) (fun hHeld => ?_)
                  refine take_at (i := 0) (v := ?_) 52 rfl rfl (by kernel_rfl) (by kernel_rfl) (by kernel_rfl) (fun _ _ _ h => h) (Or.inl ⟨by rfl, ?_⟩) (by assumption) ?_
                  rotate_left
                  · intro w hSw; go_simp <;> with_reducible rfl
                  try simp only [Act.put, List.setIfInBounds_toArray, List.set_cons_zero, List.set_cons_succ]
                  refine take_at (i := 1) (v := ?_) 53 rfl rfl (by kernel_rfl) (by kernel_rfl) (by kernel_rfl) (fun _ _ _ h => h) (Or.inl ⟨by rfl, ?_⟩) (by assumption) ?_
                  rotate_left
                  · intro w hSw; go_simp <;> with_reducible rfl
                  try simp only [Act.put, List.setIfInBounds_toArray, List.set_cons_zero, List.set_cons_succ]
                  refine take_at (i := 2) (v := ?_) 54 rfl rfl (by kernel_rfl) (by kernel_rfl) (by kernel_rfl) (fun _ _ _ h => h) (Or.inl ⟨by rfl, ?_⟩) (by assumption) ?_
                  rotate_left
                  · intro w hSw; go_simp <;> with_reducible rfl
                  try simp only [Act.put, List.setIfInBounds_toArray, List.set_cons_zero, List.set_cons_succ]
                  refine take_at (i := 3) (v := ?_) 55 rfl rfl (by kernel_rfl) (by kernel_rfl) (by kernel_rfl) (fun _ _ _ h => h) (Or.inl ⟨by rfl, ?_⟩) (by assumption) ?_
                  rotate_left
                  · intro w hSw; go_simp <;> with_reducible rfl
                  try simp only [Act.put, List.setIfInBounds_toArray, List.set_cons_zero, List.set_cons_succ]
                  refine take_at (i := 4) (v := ?_) 56 rfl rfl (by kernel_rfl) (by kernel_rfl) (by kernel_rfl) (fun _ _ _ h => h) (Or.inl ⟨by rfl, ?_⟩) (by assumption) ?_
                  rotate_left
                  · intro w hSw; go_simp <;> with_reducible rfl
                  try simp only [Act.put, List.setIfInBounds_toArray, List.set_cons_zero, List.set_cons_succ]
                  refine take_at (i := 5) (v := ?_) 57 rfl rfl (by kernel_rfl) (by kernel_rfl) (by kernel_rfl) (fun _ _ _ h => h) (Or.inl ⟨by rfl, ?_⟩) (by assumption) ?_
                  rotate_left
                  · intro w hSw; go_simp <;> with_reducible rfl
                  try simp only [Act.put, List.setIfInBounds_toArray, List.set_cons_zero, List.set_cons_succ]
                  refine take_at (i := 6) (v := ?_) 58 rfl rfl (by kernel_rfl) (by kernel_rfl) (by kernel_rfl) (fun _ _ _ h => h) (Or.inl ⟨by rfl, ?_⟩) (by assumption) ?_
                  rotate_left
                  · intro w hSw; go_simp <;> with_reducible rfl
                  try simp only [Act.put, List.setIfInBounds_toArray, List.set_cons_zero, List.set_cons_succ]
                  refine take_at (i := 7) (v := ?_) 59 rfl rfl (by kernel_rfl) (by kernel_rfl) (by kernel_rfl) (fun _ _ _ h => h) (Or.inl ⟨by rfl, ?_⟩) (by assumption) ?_
                  rotate_left
                  · intro w hSw; go_simp <;> with_reducible rfl
                  try simp only [Act.put, List.setIfInBounds_toArray, List.set_cons_zero, List.set_cons_succ]
                  refine take_at (i := 8) (v := ?_) 60 rfl rfl (by kernel_rfl) (by kernel_rfl) (by kernel_rfl) (fun _ _ _ h => h) (Or.inl ⟨by rfl, ?_⟩) (by assumption) ?_
                  rotate_left
                  · intro w hSw; go_simp <;> with_reducible rfl
                  try simp only [Act.put, List.setIfInBounds_toArray, List.set_cons_zero, List.set_cons_succ]
                  refine take_at (i := 9) (v := ?_) 61 rfl rfl (by kernel_rfl) (by kernel_rfl) (by kernel_rfl) (fun _ _ _ h => h) (Or.inl ⟨by rfl, ?_⟩) (by assumption) ?_
                  rotate_left
                  · intro w hSw; go_simp <;> with_reducible rfl
                  try simp only [Act.put, List.setIfInBounds_toArray, List.set_cons_zero, List.set_cons_succ]
                  refine take_at (i := 10) (v := ?_) 62 rfl rfl (by kernel_rfl) (by kernel_rfl) (by kernel_rfl) (fun _ _ _ h => h) (Or.inl ⟨by rfl, ?_⟩) (by assumption) ?_
                  rotate_left
                  · intro w hSw; go_simp <;> with_reducible rfl
                  try simp only [Act.put, List.setIfInBounds_toArray, List.set_cons_zero, List.set_cons_succ]
                  refine take_at (i := 11) (v := ?_) 63 rfl rfl (by kernel_rfl) (by kernel_rfl) (by kernel_rfl) (fun _ _ _ h => h) (Or.inl ⟨by rfl, ?_⟩) (by assumption) ?_
                  rotate_left
                  · intro w hSw; go_simp <;> with_reducible rfl
                  try simp only [Act.put, List.setIfInBounds_toArray, List.set_cons_zero, List.set_cons_succ]
                  refine take_at (i := 12) (v := ?_) 64 rfl rfl (by kernel_rfl) (by kernel_rfl) (by kernel_rfl) (fun _ _ _ h => h) (Or.inl ⟨by rfl, ?_⟩) (by assumption) ?_
                  rotate_left
                  · intro w hSw; go_simp <;> with_reducible rfl
                  try simp only [Act.put, List.setIfInBounds_toArray, List.set_cons_zero, List.set_cons_succ]
                  refine wpAnyH_ready (rs := [13]) (by kernel_rfl) (by simp) ?_
                  refine AllReadyH.cons rfl (fun K' hK => ?_) AllReadyH.nil
                  go_simp
                  refine (in_any pb N.length pd N y wr.drew (HNr.out.below (Below.refl _ wr).drew) (Nat.le_trans HLN.out (by decide))).mono ?_
                  rintro e w' ⟨he, rfl⟩
                  rw [HIN.out] at he
                  subst he
                  go_simp
                  refine hK.out _ _ (HKK.out _ (Below.refl _ wr).drew) (fun hHeld => ?_)
                  clear hK K'
                  try simp only [Act.put, List.setIfInBounds_toArray, List.set_cons_zero, List.set_cons_succ]
                  refine take_at (i := 14) (v := ?_) 66 rfl rfl (by kernel_rfl) (by kernel_rfl) (by kernel_rfl) (fun _ _ _ h => h) (Or.inl ⟨by rfl, ?_⟩) (by assumption) ?_
                  rotate_left
                  · intro w hSw; go_simp <;> with_reducible rfl
                  try simp only [Act.put, List.setIfInBounds_toArray, List.set_cons_zero, List.set_cons_succ]
                  refine take_at (i := 15) (v := ?_) 67 rfl rfl (by kernel_rfl) (by kernel_rfl) (by kernel_rfl) (fun _ _ _ h => h) (Or.inl ⟨by rfl, ?_⟩) (by assumption) ?_
                  rotate_left
                  · intro w hSw; go_simp <;> with_reducible rfl
                  try simp only [Act.put, List.setIfInBounds_toArray, List.set_cons_zero, List.set_cons_succ]
                  refine wpAnyH_done (by kernel_rfl) ?_ _
                  clear hHeld HKK
                  go_wp2_with fail
                  go_roundw
                  case rel => exact ⟨i + 1, by go_num, hlt, HBr.out.drew⟩
                  case measure => simp [intOf]; omega
              · obtain ⟨x0, x1, x2, x3, x4, x5⟩ := HX6.out
                have HX7 : Hid (wr.cell? ⟨w.heap.size, 3, none⟩ = some (.int .i64 x.serial) ∧ wr.cell? ⟨w.heap.size, 4, none⟩ = some (.int .i64 x.kind)) := ⟨Below.cell_of HBr.out x3, Below.cell_of HBr.out x4⟩
                have HW7 := Lib.hid (HWAS6.out.below HBr.out)
                have HN7 := Lib.hid (HNOW.out.below HBr.out)
                have HB7 := Lib.hid (HB5.out.trans ((HB6.out.trans (HBr.out.mono HB6.out.size)).mono HB5.out.size))
                clear x0 x1 x2 x3 x4 x5 HX6 HWAS6 HNOW HB6 HBr HB5
                go_wp2_with fail
                go_loopw [10] (fun v10 wx => ∃ k : Nat, v10 = .int .i64 k ∧ k ≤ N.length ∧ Hid (Below wr.heap.size wr wx)) (fun v10 _ => N.length - (intOf v10).toNat)
                case atStart => exact ⟨0, rfl, Nat.zero_le _, Below.refl _ _⟩
                case round =>
                  obtain ⟨k, rfl, hk, HBq⟩ := hrel
                  obtain ⟨x3, x4⟩ := HX7.out
                  have x3 := Below.cell_of HBq.out x3
                  have x4 := Below.cell_of HBq.out x4
                  have HWq := Lib.hid (HW7.out.below HBq.out)
                  by_cases hltk : k < N.length
                  · clear x4
                    obtain ⟨b1, o1, rfl, p0⟩ := (HN7.out.below HBq.out).2 k hltk
                    have HY : Hid (ix N k ∈ N) := ix_mem hltk
                    by_cases hk0 : k = 0
                    · subst hk0
                      generalize ix N 0 = y at *
                      have HKK : Hid (∀ w' : World, Below wr.heap.size wr w' → w'.cell? ⟨w.heap.size, 3, none⟩ = some (.int .i64 x.serial) ∧ w'.cell? ⟨b1, o1, none⟩ = some (.int .i64 y)) := fun w' hb => ⟨Below.cell_of hb x3, Below.cell_of hb p0⟩
                      clear x3 p0
                      by_cases h1 : y = x.serial
                      · have hb : (y != x.serial) = false := by simp [h1]
                        clear h1
                        go_upto_region 19 with fail
                        refine wp_region_held_drew (S := fun w' => w'.cell? ⟨w.heap.size, 3, none⟩ = some (.int .i64 x.serial) ∧ w'.cell? ⟨b1, o1, none⟩ = some (.int .i64 y)) (by kernel_rfl) (HKK.out wr (Below.refl _ _)) (fun hHeld => ?_)
                        refine take_at (i := 0) (v := ?_) 74 rfl rfl (by kernel_rfl) (by kernel_rfl) (by kernel_rfl) (fun _ _ _ h => h) (Or.inl ⟨by rfl, ?_⟩) (by assumption) ?_
                        rotate_left
                        · intro w hSw; go_simp <;> with_reducible rfl
                        try simp only [Act.put, List.setIfInBounds_toArray, List.set_cons_zero, List.set_cons_succ]
                        refine take_at (i := 1) (v := ?_) 75 rfl rfl (by kernel_rfl) (by kernel_rfl) (by kernel_rfl) (fun _ _ _ h => h) (Or.inl ⟨by rfl, ?_⟩) (by assumption) ?_
                        rotate_left
                        · intro w hSw; go_simp <;> with_reducible rfl
                        try simp only [Act.put, List.setIfInBounds_toArray, List.set_cons_zero, List.set_cons_succ]
                        refine take_at (i := 2) (v := ?_) 76 rfl rfl (by kernel_rfl) (by kernel_rfl) (by kernel_rfl) (fun _ _ _ h => h) (Or.inl ⟨by rfl, ?_⟩) (by assumption) ?_
                        rotate_left
                        · intro w hSw; go_simp <;> with_reducible rfl
                        try simp only [Act.put, List.setIfInBounds_toArray, List.set_cons_zero, List.set_cons_succ]
                        refine take_at (i := 3) (v := ?_) 77 rfl rfl (by kernel_rfl) (by kernel_rfl) (by kernel_rfl) (fun _ _ _ h => h) (Or.inl ⟨by rfl, ?_⟩) (by assumption) ?_
                        rotate_left
                        · intro w hSw; go_simp <;> with_reducible rfl
                        try simp only [Act.put, List.setIfInBounds_toArray, List.set_cons_zero, List.set_cons_succ]
                        refine take_at (i := 4) (v := ?_) 78 rfl rfl (by kernel_rfl) (by kernel_rfl) (by kernel_rfl) (fun _ _ _ h => h) (Or.inl ⟨by rfl, ?_⟩) (by assumption) ?_
                        rotate_left
                        · intro w hSw; go_simp <;> with_reducible rfl
                        try simp only [Act.put, List.setIfInBounds_toArray, List.set_cons_zero, List.set_cons_succ]
                        refine take_at (i := 5) (v := ?_) 79 rfl rfl (by kernel_rfl) (by kernel_rfl) (by kernel_rfl) (fun _ _ _ h => h) (Or.inl ⟨by rfl, ?_⟩) (by assumption) ?_
                        rotate_left
                        · intro w hSw; go_simp <;> with_reducible rfl
                        try simp only [Act.put, List.setIfInBounds_toArray, List.set_cons_zero, List.set_cons_succ]
                        refine take_at (i := 6) (v := ?_) 80 rfl rfl (by kernel_rfl) (by kernel_rfl) (by kernel_rfl) (fun _ _ _ h => h) (Or.inl ⟨by rfl, ?_⟩) (by assumption) ?_
                        rotate_left
                        · intro w hSw; go_simp <;> with_reducible rfl
                        try simp only [Act.put, List.setIfInBounds_toArray, List.set_cons_zero, List.set_cons_succ]
                        refine take_at (i := 7) (v := ?_) 81 rfl rfl (by kernel_rfl) (by kernel_rfl) (by kernel_rfl) (fun _ _ _ h => h) (Or.inl ⟨by rfl, ?_⟩) (by assumption) ?_
                        rotate_left
                        · intro w hSw; go_simp <;> with_reducible rfl
                        try simp only [Act.put, List.setIfInBounds_toArray, List.set_cons_zero, List.set_cons_succ]
                        refine take_at (i := 8) (v := undef) 82 rfl rfl (by kernel_rfl) (by kernel_rfl) (by kernel_rfl) (fun _ _ _ h => h) (Or.inr ⟨by rfl, rfl⟩) (by assumption) ?_
                        try simp only [Act.put, List.setIfInBounds_toArray, List.set_cons_zero, List.set_cons_succ]
                        refine take_at (i := 9) (v := undef) 83 rfl rfl (by kernel_rfl) (by kernel_rfl) (by kernel_rfl) (fun _ _ _ h => h) (Or.inr ⟨by rfl, rfl⟩) (by assumption) ?_
                        try simp only [Act.put, List.setIfInBounds_toArray, List.set_cons_zero, List.set_cons_succ]
                        refine take_at (i := 10) (v := undef) 84 rfl rfl (by kernel_rfl) (by kernel_rfl) (by kernel_rfl) (fun _ _ _ h => h) (Or.inr ⟨by rfl, rfl⟩) (by assumption) ?_
                        try simp only [Act.put, List.setIfInBounds_toArray, List.set_cons_zero, List.set_cons_succ]
                        refine take_at (i := 11) (v := undef) 85 rfl rfl (by kernel_rfl) (by kernel_rfl) (by kernel_rfl) (fun _ _ _ h => h) (Or.inr ⟨by rfl, rfl⟩) (by assumption) ?_
                        try simp only [Act.put, List.setIfInBounds_toArray, List.set_cons_zero, List.set_cons_succ]
                        refine take_at (i := 12) (v := undef) 86 rfl rfl (by kernel_rfl) (by kernel_rfl) (by kernel_rfl) (fun _ _ _ h => h) (Or.inr ⟨by rfl, rfl⟩) (by assumption) ?_
                        try simp only [Act.put, List.setIfInBounds_toArray, List.set_cons_zero, List.set_cons_succ]
                        refine take_at (i := 13) (v := undef) 87 rfl rfl (by kernel_rfl) (by kernel_rfl) (by kernel_rfl) (fun _ _ _ h => h) (Or.inr ⟨by rfl, rfl⟩) (by assumption) ?_
                        try simp only [Act.put, List.setIfInBounds_toArray, List.set_cons_zero, List.set_cons_succ]
                        refine take_at (i := 14) (v := undef) 88 rfl rfl (by kernel_rfl) (by kernel_rfl) (by kernel_rfl) (fun _ _ _ h => h) (Or.inr ⟨by rfl, rfl⟩) (by assumption) ?_
                        try simp only [Act.put, List.setIfInBounds_toArray, List.set_cons_zero, List.set_cons_succ]
                        refine take_at (i := 15) (v := ?_) 89 rfl rfl (by kernel_rfl) (by kernel_rfl) (by kernel_rfl) (fun _ _ _ h => h) (Or.inl ⟨by rfl, ?_⟩) (by assumption) ?_
                        rotate_left
                        · intro w hSw; go_simp <;> with_reducible rfl
                        try simp only [Act.put, List.setIfInBounds_toArray, List.set_cons_zero, List.set_cons_succ]
                        refine take_at (i := 16) (v := ?_) 90 rfl rfl (by kernel_rfl) (by kernel_rfl) (by kernel_rfl) (fun _ _ _ h => h) (Or.inl ⟨by rfl, ?_⟩) (by assumption) ?_
                        rotate_left
                        · intro w hSw; go_simp <;> with_reducible rfl
                        try simp only [Act.put, List.setIfInBounds_toArray, List.set_cons_zero, List.set_cons_succ]
                        refine take_at (i := 17) (v := ?_) 91 rfl rfl (by kernel_rfl) (by kernel_rfl) (by kernel_rfl) (fun _ _ _ h => h) (Or.inl ⟨by rfl, ?_⟩) (by assumption) ?_
                        rotate_left
                        · intro w hSw; go_simp <;> with_reducible rfl
                        try simp only [Act.put, List.setIfInBounds_toArray, List.set_cons_zero, List.set_cons_succ]
                        refine take_at (i := 18) (v := ?_) 92 rfl rfl (by kernel_rfl) (by kernel_rfl) (by kernel_rfl) (fun _ _ _ h => h) (Or.inl ⟨by rfl, ?_⟩) (by assumption) ?_
                        rotate_left
                        · intro w hSw; go_simp <;> with_reducible rfl
                        try simp only [Act.put, List.setIfInBounds_toArray, List.set_cons_zero, List.set_cons_succ]
                        refine take_at (i := 19) (v := ?_) 93 rfl rfl (by kernel_rfl) (by kernel_rfl) (by kernel_rfl) (fun _ _ _ h => h) (Or.inl ⟨by rfl, ?_⟩) (by assumption) ?_
                        rotate_left
                        · intro w hSw; go_simp <;> with_reducible rfl
                        try simp only [Act.put, List.setIfInBounds_toArray, List.set_cons_zero, List.set_cons_succ]
                        refine take_at (i := 20) (v := undef) 94 rfl rfl (by kernel_rfl) (by kernel_rfl) (by kernel_rfl) (fun _ _ _ h => h) (Or.inr ⟨by rfl, rfl⟩) (by assumption) ?_
                        try simp only [Act.put, List.setIfInBounds_toArray, List.set_cons_zero, List.set_cons_succ]
                        refine take_at (i := 21) (v := undef) 95 rfl rfl (by kernel_rfl) (by kernel_rfl) (by kernel_rfl) (fun _ _ _ h => h) (Or.inr ⟨by rfl, rfl⟩) (by assumption) ?_
                        try simp only [Act.put, List.setIfInBounds_toArray, List.set_cons_zero, List.set_cons_succ]
                        refine take_at (i := 22) (v := undef) 96 rfl rfl (by kernel_rfl) (by kernel_rfl) (by kernel_rfl) (fun _ _ _ h => h) (Or.inr ⟨by rfl, rfl⟩) (by assumption) ?_
                        try simp only [Act.put, List.setIfInBounds_toArray, List.set_cons_zero, List.set_cons_succ]
                        refine take_at (i := 23) (v := undef) 97 rfl rfl (by kernel_rfl) (by kernel_rfl) (by kernel_rfl) (fun _ _ _ h => h) (Or.inr ⟨by rfl, rfl⟩) (by assumption) ?_
                        try simp only [Act.put, List.setIfInBounds_toArray, List.set_cons_zero, List.set_cons_succ]
                        refine take_at (i := 24) (v := undef) 98 rfl rfl (by kernel_rfl) (by kernel_rfl) (by kernel_rfl) (fun _ _ _ h => h) (Or.inr ⟨by rfl, rfl⟩) (by assumption) ?_
                        try simp only [Act.put, List.setIfInBounds_toArray, List.set_cons_zero, List.set_cons_succ]
                        refine take_at (i := 25) (v := undef) 99 rfl rfl (by kernel_rfl) (by kernel_rfl) (by kernel_rfl) (fun _ _ _ h => h) (Or.inr ⟨by rfl, rfl⟩) (by assumption) ?_
                        try simp only [Act.put, List.setIfInBounds_toArray, List.set_cons_zero, List.set_cons_succ]
                        refine take_at (i := 26) (v := undef) 100 rfl rfl (by kernel_rfl) (by kernel_rfl) (by kernel_rfl) (fun _ _ _ h => h) (Or.inr ⟨by rfl, rfl⟩) (by assumption) ?_
                        try simp only [Act.put, List.setIfInBounds_toArray, List.set_cons_zero, List.set_cons_succ]
                        refine take_at (i := 27) (v := undef) 101 rfl rfl (by kernel_rfl) (by kernel_rfl) (by kernel_rfl) (fun _ _ _ h => h) (Or.inr ⟨by rfl, rfl⟩) (by assumption) ?_
                        try simp only [Act.put, List.setIfInBounds_toArray, List.set_cons_zero, List.set_cons_succ]
                        refine take_at (i := 28) (v := undef) 102 rfl rfl (by kernel_rfl) (by kernel_rfl) (by kernel_rfl) (fun _ _ _ h => h) (Or.inr ⟨by rfl, rfl⟩) (by assumption) ?_
                        try simp only [Act.put, List.setIfInBounds_toArray, List.set_cons_zero, List.set_cons_succ]
                        refine take_at (i := 29) (v := undef) 103 rfl rfl (by kernel_rfl) (by kernel_rfl) (by kernel_rfl) (fun _ _ _ h => h) (Or.inr ⟨by rfl, rfl⟩) (by assumption) ?_
                        try simp only [Act.put, List.setIfInBounds_toArray, List.set_cons_zero, List.set_cons_succ]
                        refine take_at (i := 30) (v := undef) 104 rfl rfl (by kernel_rfl) (by kernel_rfl) (by kernel_rfl) (fun _ _ _ h => h) (Or.inr ⟨by rfl, rfl⟩) (by assumption) ?_
                        try simp only [Act.put, List.setIfInBounds_toArray, List.set_cons_zero, List.set_cons_succ]
                        refine take_at (i := 31) (v := ?_) 105 rfl rfl (by kernel_rfl) (by kernel_rfl) (by kernel_rfl) (fun _ _ _ h => h) (Or.inl ⟨by rfl, ?_⟩) (by assumption) ?_
                        rotate_left
                        · intro w hSw; go_simp <;> with_reducible rfl
                        try simp only [Act.put, List.setIfInBounds_toArray, List.set_cons_zero, List.set_cons_succ]
                        refine take_at (i := 32) (v := ?_) 106 rfl rfl (by kernel_rfl) (by kernel_rfl) (by kernel_rfl) (fun _ _ _ h => h) (Or.inl ⟨by rfl, ?_⟩) (by assumption) ?_
                        rotate_left
                        · intro w hSw; go_simp <;> with_reducible rfl
                        try simp only [Act.put, List.setIfInBounds_toArray, List.set_cons_zero, List.set_cons_succ]
                        refine wpAnyH_done (by kernel_rfl) ?_ _
                        clear hHeld HKK
                        go_wp2_with fail
                        go_roundw
                        case rel => exact ⟨1, by go_num, by omega, HBq.out.drew⟩
                        case measure => simp [intOf]; omega
                      · have hb : (y != x.serial) = true := by simp [h1]
                        have HIN : Hid (decide (y ∈ L) = true) := decide_eq_true ((HFAR.out.1 y h1).mp HY.out)
                        clear h1
                        go_upto_region 19 with fail
                        refine wp_region_held_drew (S := fun w' => w'.cell? ⟨w.heap.size, 3, none⟩ = some (.int .i64 x.serial) ∧ w'.cell? ⟨b1, o1, none⟩ = some (.int .i64 y)) (by kernel_rfl) (HKK.out wr (Below.refl _ _)) (fun hHeld => ?_)
                        refine take_at (i := 0) (v := ?_) 74 rfl rfl (by kernel_rfl) (by kernel_rfl) (by kernel_rfl) (fun _ _ _ h => h) (Or.inl ⟨by rfl, ?_⟩) (by assumption) ?_
                        rotate_left
                        · intro w hSw; go_simp <;> with_reducible rfl
                        try simp only [Act.put, List.setIfInBounds_toArray, List.set_cons_zero, List.set_cons_succ]
                        refine take_at (i := 1) (v := ?_) 75 rfl rfl (by kernel_rfl) (by kernel_rfl) (by kernel_rfl) (fun _ _ _ h => h) (Or.inl ⟨by rfl, ?_⟩) (by assumption) ?_
                        rotate_left
                        · intro w hSw; go_simp <;> with_reducible rfl
                        try simp only [Act.put, List.setIfInBounds_toArray, List.set_cons_zero, List.set_cons_succ]
                        refine take_at (i := 2) (v := ?_) 76 rfl rfl (by kernel_rfl) (by kernel_rfl) (by kernel_rfl) (fun _ _ _ h => h) (Or.inl ⟨by rfl, ?_⟩) (by assumption) ?_
                        rotate_left
                        · intro w hSw; go_simp <;> with_reducible rfl
                        try simp only [Act.put, List.setIfInBounds_toArray, List.set_cons_zero, List.set_cons_succ]
                        refine take_at (i := 3) (v := ?_) 77 rfl rfl (by kernel_rfl) (by kernel_rfl) (by kernel_rfl) (fun _ _ _ h => h) (Or.inl ⟨by rfl, ?_⟩) (by assumption) ?_
                        rotate_left
                        · intro w hSw; go_simp <;> with_reducible rfl
                        try simp only [Act.put, List.setIfInBounds_toArray, List.set_cons_zero, List.set_cons_succ]
                        refine take_at (i := 4) (v := ?_) 78 rfl rfl (by kernel_rfl) (by kernel_rfl) (by kernel_rfl) (fun _ _ _ h => h) (Or.inl ⟨by rfl, ?_⟩) (by assumption) ?_
                        rotate_left
                        · intro w hSw; go_simp <;> with_reducible rfl
                        try simp only [Act.put, List.setIfInBounds_toArray, List.set_cons_zero, List.set_cons_succ]
                        refine take_at (i := 5) (v := ?_) 79 rfl rfl (by kernel_rfl) (by kernel_rfl) (by kernel_rfl) (fun _ _ _ h => h) (Or.inl ⟨by rfl, ?_⟩) (by assumption) ?_
                        rotate_left
                        · intro w hSw; go_simp <;> with_reducible rfl
                        try simp only [Act.put, List.setIfInBounds_toArray, List.set_cons_zero, List.set_cons_succ]
                        refine take_at (i := 6) (v := ?_) 80 rfl rfl (by kernel_rfl) (by kernel_rfl) (by kernel_rfl) (fun _ _ _ h => h) (Or.inl ⟨by rfl, ?_⟩) (by assumption) ?_
                        rotate_left
                        · intro w hSw; go_simp <;> with_reducible rfl
                        try simp only [Act.put, List.setIfInBounds_toArray, List.set_cons_zero, List.set_cons_succ]
                        refine take_at (i := 7) (v := ?_) 81 rfl rfl (by kernel_rfl) (by kernel_rfl) (by kernel_rfl) (fun _ _ _ h => h) (Or.inl ⟨by rfl, ?_⟩) (by assumption) ?_
                        rotate_left
                        · intro w hSw; go_simp <;> with_reducible rfl
                        try simp only [Act.put, List.setIfInBounds_toArray, List.set_cons_zero, List.set_cons_succ]
                        refine take_at (i := 8) (v := ?_) 82 rfl rfl (by kernel_rfl) (by kernel_rfl) (by kernel_rfl) (fun _ _ _ h => h) (Or.inl ⟨by rfl, ?_⟩) (by assumption) ?_
                        rotate_left
                        · intro w hSw; go_simp <;> with_reducible rfl
                        try simp only [Act.put, List.setIfInBounds_toArray, List.set_cons_zero, List.set_cons_succ]
                        refine take_at (i := 9) (v := ?_) 83 rfl rfl (by kernel_rfl) (by kernel_rfl) (by kernel_rfl) (fun _ _ _ h => h) (Or.inl ⟨by rfl, ?_⟩) (by assumption) ?_
                        rotate_left
                        · intro w hSw; go_simp <;> with_reducible rfl
                        try simp only [Act.put, List.setIfInBounds_toArray, List.set_cons_zero, List.set_cons_succ]
                        refine take_at (i := 10) (v := ?_) 84 rfl rfl (by kernel_rfl) (by kernel_rfl) (by kernel_rfl) (fun _ _ _ h => h) (Or.inl ⟨by rfl, ?_⟩) (by assumption) ?_
                        rotate_left
                        · intro w hSw; go_simp <;> with_reducible rfl
                        try simp only [Act.put, List.setIfInBounds_toArray, List.set_cons_zero, List.set_cons_succ]
                        refine take_at (i := 11) (v := ?_) 85 rfl rfl (by kernel_rfl) (by kernel_rfl) (by kernel_rfl) (fun _ _ _ h => h) (Or.inl ⟨by rfl, ?_⟩) (by assumption) ?_
                        rotate_left
                        · intro w hSw; go_simp <;> with_reducible rfl
                        try simp only [Act.put, List.setIfInBounds_toArray, List.set_cons_zero, List.set_cons_succ]
                        refine take_at (i := 12) (v := ?_) 86 rfl rfl (by kernel_rfl) (by kernel_rfl) (by kernel_rfl) (fun _ _ _ h => h) (Or.inl ⟨by rfl, ?_⟩) (by assumption) ?_
                        rotate_left
                        · intro w hSw; go_simp <;> with_reducible rfl
                        try simp only [Act.put, List.setIfInBounds_toArray, List.set_cons_zero, List.set_cons_succ]
                        refine wpAnyH_ready (rs := [13]) (by kernel_rfl) (by simp) ?_
                        refine AllReadyH.cons rfl (fun K' hK => ?_) AllReadyH.nil
                        go_simp
                        refine (in_any pa L.length pc L y wr.drew (HWq.out.below (Below.refl _ wr).drew) (Nat.le_trans HLW.out (by decide))).mono ?_
                        rintro e w' ⟨he, rfl⟩
                        rw [HIN.out] at he
                        subst he
                        go_simp
                        refine hK.out _ _ (HKK.out _ (Below.refl _ wr).drew) (fun hHeld => ?_)
                        clear hK K'
                        try simp only [Act.put, List.setIfInBounds_toArray, List.set_cons_zero, List.set_cons_succ]
                        refine take_at (i := 14) (v := ?_) 88 rfl rfl (by kernel_rfl) (by kernel_rfl) (by kernel_rfl) (fun _ _ _ h => h) (Or.inl ⟨by rfl, ?_⟩) (by assumption) ?_
                        rotate_left
                        · intro w hSw; go_simp <;> with_reducible rfl
                        try simp only [Act.put, List.setIfInBounds_toArray, List.set_cons_zero, List.set_cons_succ]
                        refine take_at (i := 15) (v := ?_) 89 rfl rfl (by kernel_rfl) (by kernel_rfl) (by kernel_rfl) (fun _ _ _ h => h) (Or.inl ⟨by rfl, ?_⟩) (by assumption) ?_
                        rotate_left
                        · intro w hSw; go_simp <;> with_reducible rfl
                        try simp only [Act.put, List.setIfInBounds_toArray, List.set_cons_zero, List.set_cons_succ]
                        refine take_at (i := 16) (v := ?_) 90 rfl rfl (by kernel_rfl) (by kernel_rfl) (by kernel_rfl) (fun _ _ _ h => h) (Or.inl ⟨by rfl, ?_⟩) (by assumption) ?_
                        rotate_left
                        · intro w hSw; go_simp <;> with_reducible rfl
                        try simp only [Act.put, List.setIfInBounds_toArray, List.set_cons_zero, List.set_cons_succ]
                        refine take_at (i := 17) (v := ?_) 91 rfl rfl (by kernel_rfl) (by kernel_rfl) (by kernel_rfl) (fun _ _ _ h => h) (Or.inl ⟨by rfl, ?_⟩) (by assumption) ?_
                        rotate_left
                        · intro w hSw; go_simp <;> with_reducible rfl
                        try simp only [Act.put, List.setIfInBounds_toArray, List.set_cons_zero, List.set_cons_succ]
                        refine take_at (i := 18) (v := ?_) 92 rfl rfl (by kernel_rfl) (by kernel_rfl) (by kernel_rfl) (fun _ _ _ h => h) (Or.inl ⟨by rfl, ?_⟩) (by assumption) ?_
                        rotate_left
                        · intro w hSw; go_simp <;> with_reducible rfl
                        try simp only [Act.put, List.setIfInBounds_toArray, List.set_cons_zero, List.set_cons_succ]
                        refine take_at (i := 19) (v := ?_) 93 rfl rfl (by kernel_rfl) (by kernel_rfl) (by kernel_rfl) (fun _ _ _ h => h) (Or.inl ⟨by rfl, ?_⟩) (by assumption) ?_
                        rotate_left
                        · intro w hSw; go_simp <;> with_reducible rfl
                        try simp only [Act.put, List.setIfInBounds_toArray, List.set_cons_zero, List.set_cons_succ]
                        refine take_at (i := 20) (v := undef) 94 rfl rfl (by kernel_rfl) (by kernel_rfl) (by kernel_rfl) (fun _ _ _ h => h) (Or.inr ⟨by rfl, rfl⟩) (by assumption) ?_
                        try simp only [Act.put, List.setIfInBounds_toArray, List.set_cons_zero, List.set_cons_succ]
                        refine take_at (i := 21) (v := undef) 95 rfl rfl (by kernel_rfl) (by kernel_rfl) (by kernel_rfl) (fun _ _ _ h => h) (Or.inr ⟨by rfl, rfl⟩) (by assumption) ?_
                        try simp only [Act.put, List.setIfInBounds_toArray, List.set_cons_zero, List.set_cons_succ]
                        refine take_at (i := 22) (v := undef) 96 rfl rfl (by kernel_rfl) (by kernel_rfl) (by kernel_rfl) (fun _ _ _ h => h) (Or.inr ⟨by rfl, rfl⟩) (by assumption) ?_
                        try simp only [Act.put, List.setIfInBounds_toArray, List.set_cons_zero, List.set_cons_succ]
                        refine take_at (i := 23) (v := undef) 97 rfl rfl (by kernel_rfl) (by kernel_rfl) (by kernel_rfl) (fun _ _ _ h => h) (Or.inr ⟨by rfl, rfl⟩) (by assumption) ?_
                        try simp only [Act.put, List.setIfInBounds_toArray, List.set_cons_zero, List.set_cons_succ]
                        refine take_at (i := 24) (v := undef) 98 rfl rfl (by kernel_rfl) (by kernel_rfl) (by kernel_rfl) (fun _ _ _ h => h) (Or.inr ⟨by rfl, rfl⟩) (by assumption) ?_
                        try simp only [Act.put, List.setIfInBounds_toArray, List.set_cons_zero, List.set_cons_succ]
                        refine take_at (i := 25) (v := undef) 99 rfl rfl (by kernel_rfl) (by kernel_rfl) (by kernel_rfl) (fun _ _ _ h => h) (Or.inr ⟨by rfl, rfl⟩) (by assumption) ?_
                        try simp only [Act.put, List.setIfInBounds_toArray, List.set_cons_zero, List.set_cons_succ]
                        refine take_at (i := 26) (v := undef) 100 rfl rfl (by kernel_rfl) (by kernel_rfl) (by kernel_rfl) (fun _ _ _ h => h) (Or.inr ⟨by rfl, rfl⟩) (by assumption) ?_
                        try simp only [Act.put, List.setIfInBounds_toArray, List.set_cons_zero, List.set_cons_succ]
                        refine take_at (i := 27) (v := undef) 101 rfl rfl (by kernel_rfl) (by kernel_rfl) (by kernel_rfl) (fun _ _ _ h => h) (Or.inr ⟨by rfl, rfl⟩) (by assumption) ?_
                        try simp only [Act.put, List.setIfInBounds_toArray, List.set_cons_zero, List.set_cons_succ]
                        refine take_at (i := 28) (v := undef) 102 rfl rfl (by kernel_rfl) (by kernel_rfl) (by kernel_rfl) (fun _ _ _ h => h) (Or.inr ⟨by rfl, rfl⟩) (by assumption) ?_
                        try simp only [Act.put, List.setIfInBounds_toArray, List.set_cons_zero, List.set_cons_succ]
                        refine take_at (i := 29) (v := undef) 103 rfl rfl (by kernel_rfl) (by kernel_rfl) (by kernel_rfl) (fun _ _ _ h => h) (Or.inr ⟨by rfl, rfl⟩) (by assumption) ?_
                        try simp only [Act.put, List.setIfInBounds_toArray, List.set_cons_zero, List.set_cons_succ]
                        refine take_at (i := 30) (v := undef) 104 rfl rfl (by kernel_rfl) (by kernel_rfl) (by kernel_rfl) (fun _ _ _ h => h) (Or.inr ⟨by rfl, rfl⟩) (by assumption) ?_
                        try simp only [Act.put, List.setIfInBounds_toArray, List.set_cons_zero, List.set_cons_succ]
                        refine take_at (i := 31) (v := ?_) 105 rfl rfl (by kernel_rfl) (by kernel_rfl) (by kernel_rfl) (fun _ _ _ h => h) (Or.inl ⟨by rfl, ?_⟩) (by assumption) ?_
                        rotate_left
                        · intro w hSw; go_simp <;> with_reducible rfl
                        try simp only [Act.put, List.setIfInBounds_toArray, List.set_cons_zero, List.set_cons_succ]
                        refine take_at (i := 32) (v := ?_) 106 rfl rfl (by kernel_rfl) (by kernel_rfl) (by kernel_rfl) (fun _ _ _ h => h) (Or.inl ⟨by rfl, ?_⟩) (by assumption) ?_
                        rotate_left
                        · intro w hSw; go_simp <;> with_reducible rfl
                        try simp only [Act.put, List.setIfInBounds_toArray, List.set_cons_zero, List.set_cons_succ]
                        refine wpAnyH_done (by kernel_rfl) ?_ _
                        clear hHeld HKK
                        go_wp2_with fail
                        go_roundw
                        case rel => exact ⟨1, by go_num, by omega, HBq.out.drew⟩
                        case measure => simp [intOf]; omega
                    · obtain ⟨j, rfl⟩ : ∃ j, k = j + 1 := ⟨k - 1, by omega⟩
                      obtain ⟨b1', o1', e', q0⟩ := (HN7.out.below HBq.out).2 j (by omega)
                      cases e'
                      have hzy : ix N j < ix N (j + 1) := by
                        have := List.pairwise_iff_getElem.mp HSTR.out j (j + 1) (by omega) hltk (by omega)
                        rw [ix_get (by omega), ix_get hltk]
                        exact this
                      generalize ix N (j + 1) = y at *
                      generalize ix N j = z at *
                      have hge : decide (y ≤ z) = false := by simp; omega
                      clear hzy
                      have hj0 : (0 : Int) ≤ (j : Int) + 1 := by omega
                      have hjl : j < N.length := by omega
                      have HKK : Hid (∀ w' : World, Below wr.heap.size wr w' → w'.cell? ⟨w.heap.size, 3, none⟩ = some (.int .i64 x.serial) ∧ w'.cell? ⟨b1, o1 + (j + 1), none⟩ = some (.int .i64 y) ∧ w'.cell? ⟨b1, o1 + j, none⟩ = some (.int .i64 z)) := fun w' hb => ⟨Below.cell_of hb x3, Below.cell_of hb p0, Below.cell_of hb q0⟩
                      clear x3 p0 q0
                      by_cases h1 : y = x.serial
                      · have hb : (y != x.serial) = false := by simp [h1]
                        clear h1
                        go_upto_region 19 with fail
                        refine wp_region_held_drew (S := fun w' => w'.cell? ⟨w.heap.size, 3, none⟩ = some (.int .i64 x.serial) ∧ w'.cell? ⟨b1, o1 + (j + 1), none⟩ = some (.int .i64 y) ∧ w'.cell? ⟨b1, o1 + j, none⟩ = some (.int .i64 z)) (by kernel_rfl) (HKK.out wr (Below.refl _ _)) (fun hHeld => ?_)
                        refine take_at (i := 0) (v := ?_) 74 rfl rfl (by kernel_rfl) (by kernel_rfl) (by kernel_rfl) (fun _ _ _ h => h) (Or.inl ⟨by rfl, ?_⟩) (by assumption) ?_
                        rotate_left
                        · intro w hSw; go_simp <;> with_reducible rfl
                        try simp only [Act.put, List.setIfInBounds_toArray, List.set_cons_zero, List.set_cons_succ]
                        refine take_at (i := 1) (v := ?_) 75 rfl rfl (by kernel_rfl) (by kernel_rfl) (by kernel_rfl) (fun _ _ _ h => h) (Or.inl ⟨by rfl, ?_⟩) (by assumption) ?_
                        rotate_left
                        · intro w hSw; go_simp <;> with_reducible rfl
                        try simp only [Act.put, List.setIfInBounds_toArray, List.set_cons_zero, List.set_cons_succ]
                        refine take_at (i := 2) (v := ?_) 76 rfl rfl (by kernel_rfl) (by kernel_rfl) (by kernel_rfl) (fun _ _ _ h => h) (Or.inl ⟨by rfl, ?_⟩) (by assumption) ?_
                        rotate_left
                        · intro w hSw; go_simp <;> with_reducible rfl
                        try simp only [Act.put, List.setIfInBounds_toArray, List.set_cons_zero, List.set_cons_succ]
                        refine take_at (i := 3) (v := ?_) 77 rfl rfl (by kernel_rfl) (by kernel_rfl) (by kernel_rfl) (fun _ _ _ h => h) (Or.inl ⟨by rfl, ?_⟩) (by assumption) ?_
                        rotate_left
                        · intro w hSw; go_simp <;> with_reducible rfl
                        try simp only [Act.put, List.setIfInBounds_toArray, List.set_cons_zero, List.set_cons_succ]
                        refine take_at (i := 4) (v := ?_) 78 rfl rfl (by kernel_rfl) (by kernel_rfl) (by kernel_rfl) (fun _ _ _ h => h) (Or.inl ⟨by rfl, ?_⟩) (by assumption) ?_
                        rotate_left
                        · intro w hSw; go_simp <;> with_reducible rfl
                        try simp only [Act.put, List.setIfInBounds_toArray, List.set_cons_zero, List.set_cons_succ]
                        refine take_at (i := 5) (v := ?_) 79 rfl rfl (by kernel_rfl) (by kernel_rfl) (by kernel_rfl) (fun _ _ _ h => h) (Or.inl ⟨by rfl, ?_⟩) (by assumption) ?_
                        rotate_left
                        · intro w hSw; go_simp <;> with_reducible rfl
                        try simp only [Act.put, List.setIfInBounds_toArray, List.set_cons_zero, List.set_cons_succ]
                        refine take_at (i := 6) (v := ?_) 80 rfl rfl (by kernel_rfl) (by kernel_rfl) (by kernel_rfl) (fun _ _ _ h => h) (Or.inl ⟨by rfl, ?_⟩) (by assumption) ?_
                        rotate_left
                        · intro w hSw; go_simp <;> with_reducible rfl
                        try simp only [Act.put, List.setIfInBounds_toArray, List.set_cons_zero, List.set_cons_succ]
                        refine take_at (i := 7) (v := ?_) 81 rfl rfl (by kernel_rfl) (by kernel_rfl) (by kernel_rfl) (fun _ _ _ h => h) (Or.inl ⟨by rfl, ?_⟩) (by assumption) ?_
                        rotate_left
                        · intro w hSw; go_simp <;> with_reducible rfl
                        try simp only [Act.put, List.setIfInBounds_toArray, List.set_cons_zero, List.set_cons_succ]
                        refine take_at (i := 8) (v := undef) 82 rfl rfl (by kernel_rfl) (by kernel_rfl) (by kernel_rfl) (fun _ _ _ h => h) (Or.inr ⟨by rfl, rfl⟩) (by assumption) ?_
                        try simp only [Act.put, List.setIfInBounds_toArray, List.set_cons_zero, List.set_cons_succ]
                        refine take_at (i := 9) (v := undef) 83 rfl rfl (by kernel_rfl) (by kernel_rfl) (by kernel_rfl) (fun _ _ _ h => h) (Or.inr ⟨by rfl, rfl⟩) (by assumption) ?_
                        try simp only [Act.put, List.setIfInBounds_toArray, List.set_cons_zero, List.set_cons_succ]
                        refine take_at (i := 10) (v := undef) 84 rfl rfl (by kernel_rfl) (by kernel_rfl) (by kernel_rfl) (fun _ _ _ h => h) (Or.inr ⟨by rfl, rfl⟩) (by assumption) ?_
                        try simp only [Act.put, List.setIfInBounds_toArray, List.set_cons_zero, List.set_cons_succ]
                        refine take_at (i := 11) (v := undef) 85 rfl rfl (by kernel_rfl) (by kernel_rfl) (by kernel_rfl) (fun _ _ _ h => h) (Or.inr ⟨by rfl, rfl⟩) (by assumption) ?_
                        try simp only [Act.put, List.setIfInBounds_toArray, List.set_cons_zero, List.set_cons_succ]
                        refine take_at (i := 12) (v := undef) 86 rfl rfl (by kernel_rfl) (by kernel_rfl) (by kernel_rfl) (fun _ _ _ h => h) (Or.inr ⟨by rfl, rfl⟩) (by assumption) ?_
                        try simp only [Act.put, List.setIfInBounds_toArray, List.set_cons_zero, List.set_cons_succ]
                        refine take_at (i := 13) (v := undef) 87 rfl rfl (by kernel_rfl) (by kernel_rfl) (by kernel_rfl) (fun _ _ _ h => h) (Or.inr ⟨by rfl, rfl⟩) (by assumption) ?_
                        try simp only [Act.put, List.setIfInBounds_toArray, List.set_cons_zero, List.set_cons_succ]
                        refine take_at (i := 14) (v := undef) 88 rfl rfl (by kernel_rfl) (by kernel_rfl) (by kernel_rfl) (fun _ _ _ h => h) (Or.inr ⟨by rfl, rfl⟩) (by assumption) ?_
                        try simp only [Act.put, List.setIfInBounds_toArray, List.set_cons_zero, List.set_cons_succ]
                        refine take_at (i := 15) (v := ?_) 89 rfl rfl (by kernel_rfl) (by kernel_rfl) (by kernel_rfl) (fun _ _ _ h => h) (Or.inl ⟨by rfl, ?_⟩) (by assumption) ?_
                        rotate_left
                        · intro w hSw; go_simp <;> with_reducible rfl
                        try simp only [Act.put, List.setIfInBounds_toArray, List.set_cons_zero, List.set_cons_succ]
                        refine take_at (i := 16) (v := ?_) 90 rfl rfl (by kernel_rfl) (by kernel_rfl) (by kernel_rfl) (fun _ _ _ h => h) (Or.inl ⟨by rfl, ?_⟩) (by assumption) ?_
                        rotate_left
                        · intro w hSw; go_simp <;> with_reducible rfl
                        try simp only [Act.put, List.setIfInBounds_toArray, List.set_cons_zero, List.set_cons_succ]
                        refine take_at (i := 17) (v := ?_) 91 rfl rfl (by kernel_rfl) (by kernel_rfl) (by kernel_rfl) (fun _ _ _ h => h) (Or.inl ⟨by rfl, ?_⟩) (by assumption) ?_
                        rotate_left
                        · intro w hSw; go_simp <;> with_reducible rfl
                        try simp only [Act.put, List.setIfInBounds_toArray, List.set_cons_zero, List.set_cons_succ]
                        refine take_at (i := 18) (v := ?_) 92 rfl rfl (by kernel_rfl) (by kernel_rfl) (by kernel_rfl) (fun _ _ _ h => h) (Or.inl ⟨by rfl, ?_⟩) (by assumption) ?_
                        rotate_left
                        · intro w hSw; go_simp <;> with_reducible rfl
                        try simp only [Act.put, List.setIfInBounds_toArray, List.set_cons_zero, List.set_cons_succ]
                        refine take_at (i := 19) (v := ?_) 93 rfl rfl (by kernel_rfl) (by kernel_rfl) (by kernel_rfl) (fun _ _ _ h => h) (Or.inl ⟨by rfl, ?_⟩) (by assumption) ?_
                        rotate_left
                        · intro w hSw; go_simp <;> with_reducible rfl
                        try simp only [Act.put, List.setIfInBounds_toArray, List.set_cons_zero, List.set_cons_succ]
                        refine take_at (i := 20) (v := ?_) 94 rfl rfl (by kernel_rfl) (by kernel_rfl) (by kernel_rfl) (fun _ _ _ h => h) (Or.inl ⟨by rfl, ?_⟩) (by assumption) ?_
                        rotate_left
                        · intro w hSw; go_simp <;> with_reducible rfl
                        try simp only [Act.put, List.setIfInBounds_toArray, List.set_cons_zero, List.set_cons_succ]
                        refine take_at (i := 21) (v := ?_) 95 rfl rfl (by kernel_rfl) (by kernel_rfl) (by kernel_rfl) (fun _ _ _ h => h) (Or.inl ⟨by rfl, ?_⟩) (by assumption) ?_
                        rotate_left
                        · intro w hSw; go_simp <;> with_reducible rfl
                        try simp only [Act.put, List.setIfInBounds_toArray, List.set_cons_zero, List.set_cons_succ]
                        refine take_at (i := 22) (v := .int .i64 (j : Int)) 96 rfl rfl (by kernel_rfl) (by kernel_rfl) (by kernel_rfl) (fun _ _ _ h => h) (Or.inl ⟨by rfl, ?_⟩) (by assumption) ?_
                        · intro w' hSw
                          go_simp
                          exact i64_in _ (by omega)
                        try simp only [Act.put, List.setIfInBounds_toArray, List.set_cons_zero, List.set_cons_succ]
                        refine take_at (i := 23) (v := .int .i64 (j : Int)) 97 rfl rfl (by kernel_rfl) (by kernel_rfl) (by kernel_rfl) (fun _ _ _ h => h) (Or.inl ⟨by rfl, ?_⟩) (by assumption) ?_
                        · intro w' hSw
                          go_simp
                          all_goals omega
                        try simp only [Act.put, List.setIfInBounds_toArray, List.set_cons_zero, List.set_cons_succ]
                        refine take_at (i := 24) (v := ?_) 98 rfl rfl (by kernel_rfl) (by kernel_rfl) (by kernel_rfl) (fun _ _ _ h => h) (Or.inl ⟨by rfl, ?_⟩) (by assumption) ?_
                        rotate_left
                        · intro w hSw; go_simp <;> with_reducible rfl
                        try simp only [Act.put, List.setIfInBounds_toArray, List.set_cons_zero, List.set_cons_succ]
                        refine take_at (i := 25) (v := ?_) 99 rfl rfl (by kernel_rfl) (by kernel_rfl) (by kernel_rfl) (fun _ _ _ h => h) (Or.inl ⟨by rfl, ?_⟩) (by assumption) ?_
                        rotate_left
                        · intro w hSw; go_simp <;> with_reducible rfl
                        try simp only [Act.put, List.setIfInBounds_toArray, List.set_cons_zero, List.set_cons_succ]
                        refine take_at (i := 26) (v := ?_) 100 rfl rfl (by kernel_rfl) (by kernel_rfl) (by kernel_rfl) (fun _ _ _ h => h) (Or.inl ⟨by rfl, ?_⟩) (by assumption) ?_
                        rotate_left
                        · intro w hSw; go_simp <;> with_reducible rfl
                        try simp only [Act.put, List.setIfInBounds_toArray, List.set_cons_zero, List.set_cons_succ]
                        refine take_at (i := 27) (v := ?_) 101 rfl rfl (by kernel_rfl) (by kernel_rfl) (by kernel_rfl) (fun _ _ _ h => h) (Or.inl ⟨by rfl, ?_⟩) (by assumption) ?_
                        rotate_left
                        · intro w hSw; go_simp <;> with_reducible rfl
                        try simp only [Act.put, List.setIfInBounds_toArray, List.set_cons_zero, List.set_cons_succ]
                        refine take_at (i := 28) (v := ?_) 102 rfl rfl (by kernel_rfl) (by kernel_rfl) (by kernel_rfl) (fun _ _ _ h => h) (Or.inl ⟨by rfl, ?_⟩) (by assumption) ?_
                        rotate_left
                        · intro w hSw; go_simp <;> with_reducible rfl
                        try simp only [Act.put, List.setIfInBounds_toArray, List.set_cons_zero, List.set_cons_succ]
                        refine take_at (i := 29) (v := ?_) 103 rfl rfl (by kernel_rfl) (by kernel_rfl) (by kernel_rfl) (fun _ _ _ h => h) (Or.inl ⟨by rfl, ?_⟩) (by assumption) ?_
                        rotate_left
                        · intro w hSw; go_simp <;> with_reducible rfl
                        try simp only [Act.put, List.setIfInBounds_toArray, List.set_cons_zero, List.set_cons_succ]
                        refine take_at (i := 30) (v := ?_) 104 rfl rfl (by kernel_rfl) (by kernel_rfl) (by kernel_rfl) (fun _ _ _ h => h) (Or.inl ⟨by rfl, ?_⟩) (by assumption) ?_
                        rotate_left
                        · intro w hSw; go_simp <;> with_reducible rfl
                        try simp only [Act.put, List.setIfInBounds_toArray, List.set_cons_zero, List.set_cons_succ]
                        refine take_at (i := 31) (v := ?_) 105 rfl rfl (by kernel_rfl) (by kernel_rfl) (by kernel_rfl) (fun _ _ _ h => h) (Or.inl ⟨by rfl, ?_⟩) (by assumption) ?_
                        rotate_left
                        · intro w hSw; go_simp <;> with_reducible rfl
                        try simp only [Act.put, List.setIfInBounds_toArray, List.set_cons_zero, List.set_cons_succ]
                        refine take_at (i := 32) (v := ?_) 106 rfl rfl (by kernel_rfl) (by kernel_rfl) (by kernel_rfl) (fun _ _ _ h => h) (Or.inl ⟨by rfl, ?_⟩) (by assumption) ?_
                        rotate_left
                        · intro w hSw; go_simp <;> with_reducible rfl
                        try simp only [Act.put, List.setIfInBounds_toArray, List.set_cons_zero, List.set_cons_succ]
                        refine wpAnyH_done (by kernel_rfl) ?_ _
                        clear hHeld HKK
                        go_wp2_with fail
                        go_roundw
                        case rel => exact ⟨j + 1 + 1, by go_num, by omega, HBq.out.drew⟩
                        case measure => simp [intOf]; omega
                      · have hb : (y != x.serial) = true := by simp [h1]
                        have HIN : Hid (decide (y ∈ L) = true) := decide_eq_true ((HFAR.out.1 y h1).mp HY.out)
                        clear h1
                        go_upto_region 19 with fail
                        refine wp_region_held_drew (S := fun w' => w'.cell? ⟨w.heap.size, 3, none⟩ = some (.int .i64 x.serial) ∧ w'.cell? ⟨b1, o1 + (j + 1), none⟩ = some (.int .i64 y) ∧ w'.cell? ⟨b1, o1 + j, none⟩ = some (.int .i64 z)) (by kernel_rfl) (HKK.out wr (Below.refl _ _)) (fun hHeld => ?_)
                        refine take_at (i := 0) (v := ?_) 74 rfl rfl (by kernel_rfl) (by kernel_rfl) (by kernel_rfl) (fun _ _ _ h => h) (Or.inl ⟨by rfl, ?_⟩) (by assumption) ?_
                        rotate_left
                        · intro w hSw; go_simp <;> with_reducible rfl
                        try simp only [Act.put, List.setIfInBounds_toArray, List.set_cons_zero, List.set_cons_succ]
                        refine take_at (i := 1) (v := ?_) 75 rfl rfl (by kernel_rfl) (by kernel_rfl) (by kernel_rfl) (fun _ _ _ h => h) (Or.inl ⟨by rfl, ?_⟩) (by assumption) ?_
                        rotate_left
                        · intro w hSw; go_simp <;> with_reducible rfl
                        try simp only [Act.put, List.setIfInBounds_toArray, List.set_cons_zero, List.set_cons_succ]
                        refine take_at (i := 2) (v := ?_) 76 rfl rfl (by kernel_rfl) (by kernel_rfl) (by kernel_rfl) (fun _ _ _ h => h) (Or.inl ⟨by rfl, ?_⟩) (by assumption) ?_
                        rotate_left
                        · intro w hSw; go_simp <;> with_reducible rfl
                        try simp only [Act.put, List.setIfInBounds_toArray, List.set_cons_zero, List.set_cons_succ]
                        refine take_at (i := 3) (v := ?_) 77 rfl rfl (by kernel_rfl) (by kernel_rfl) (by kernel_rfl) (fun _ _ _ h => h) (Or.inl ⟨by rfl, ?_⟩) (by assumption) ?_
                        rotate_left
                        · intro w hSw; go_simp <;> with_reducible rfl
                        try simp only [Act.put, List.setIfInBounds_toArray, List.set_cons_zero, List.set_cons_succ]
                        refine take_at (i := 4) (v := ?_) 78 rfl rfl (by kernel_rfl) (by kernel_rfl) (by kernel_rfl) (fun _ _ _ h => h) (Or.inl ⟨by rfl, ?_⟩) (by assumption) ?_
                        rotate_left
                        · intro w hSw; go_simp <;> with_reducible rfl
                        try simp only [Act.put, List.setIfInBounds_toArray, List.set_cons_zero, List.set_cons_succ]
                        refine take_at (i := 5) (v := ?_) 79 rfl rfl (by kernel_rfl) (by kernel_rfl) (by kernel_rfl) (fun _ _ _ h => h) (Or.inl ⟨by rfl, ?_⟩) (by assumption) ?_
                        rotate_left
                        · intro w hSw; go_simp <;> with_reducible rfl
                        try simp only [Act.put, List.setIfInBounds_toArray, List.set_cons_zero, List.set_cons_succ]
                        refine take_at (i := 6) (v := ?_) 80 rfl rfl (by kernel_rfl) (by kernel_rfl) (by kernel_rfl) (fun _ _ _ h => h) (Or.inl ⟨by rfl, ?_⟩) (by assumption) ?_
                        rotate_left
                        · intro w hSw; go_simp <;> with_reducible rfl
                        try simp only [Act.put, List.setIfInBounds_toArray, List.set_cons_zero, List.set_cons_succ]
                        refine take_at (i := 7) (v := ?_) 81 rfl rfl (by kernel_rfl) (by kernel_rfl) (by kernel_rfl) (fun _ _ _ h => h) (Or.inl ⟨by rfl, ?_⟩) (by assumption) ?_
                        rotate_left
                        · intro w hSw; go_simp <;> with_reducible rfl
                        try simp only [Act.put, List.setIfInBounds_toArray, List.set_cons_zero, List.set_cons_succ]
                        refine take_at (i := 8) (v := ?_) 82 rfl rfl (by kernel_rfl) (by kernel_rfl) (by kernel_rfl) (fun _ _ _ h => h) (Or.inl ⟨by rfl, ?_⟩) (by assumption) ?_
                        rotate_left
                        · intro w hSw; go_simp <;> with_reducible rfl
                        try simp only [Act.put, List.setIfInBounds_toArray, List.set_cons_zero, List.set_cons_succ]
                        refine take_at (i := 9) (v := ?_) 83 rfl rfl (by kernel_rfl) (by kernel_rfl) (by kernel_rfl) (fun _ _ _ h => h) (Or.inl ⟨by rfl, ?_⟩) (by assumption) ?_
                        rotate_left
                        · intro w hSw; go_simp <;> with_reducible rfl
                        try simp only [Act.put, List.setIfInBounds_toArray, List.set_cons_zero, List.set_cons_succ]
                        refine take_at (i := 10) (v := ?_) 84 rfl rfl (by kernel_rfl) (by kernel_rfl) (by kernel_rfl) (fun _ _ _ h => h) (Or.inl ⟨by rfl, ?_⟩) (by assumption) ?_
                        rotate_left
                        · intro w hSw; go_simp <;> with_reducible rfl
                        try simp only [Act.put, List.setIfInBounds_toArray, List.set_cons_zero, List.set_cons_succ]
                        refine take_at (i := 11) (v := ?_) 85 rfl rfl (by kernel_rfl) (by kernel_rfl) (by kernel_rfl) (fun _ _ _ h => h) (Or.inl ⟨by rfl, ?_⟩) (by assumption) ?_
                        rotate_left
                        · intro w hSw; go_simp <;> with_reducible rfl
                        try simp only [Act.put, List.setIfInBounds_toArray, List.set_cons_zero, List.set_cons_succ]
                        refine take_at (i := 12) (v := ?_) 86 rfl rfl (by kernel_rfl) (by kernel_rfl) (by kernel_rfl) (fun _ _ _ h => h) (Or.inl ⟨by rfl, ?_⟩) (by assumption) ?_
                        rotate_left
                        · intro w hSw; go_simp <;> with_reducible rfl
                        try simp only [Act.put, List.setIfInBounds_toArray, List.set_cons_zero, List.set_cons_succ]
                        refine wpAnyH_ready (rs := [13]) (by kernel_rfl) (by simp) ?_
                        refine AllReadyH.cons rfl (fun K' hK => ?_) AllReadyH.nil
                        go_simp
                        refine (in_any pa L.length pc L y wr.drew (HWq.out.below (Below.refl _ wr).drew) (Nat.le_trans HLW.out (by decide))).mono ?_
                        rintro e w' ⟨he, rfl⟩
                        rw [HIN.out] at he
                        subst he
                        go_simp
                        refine hK.out _ _ (HKK.out _ (Below.refl _ wr).drew) (fun hHeld => ?_)
                        clear hK K'
                        try simp only [Act.put, List.setIfInBounds_toArray, List.set_cons_zero, List.set_cons_succ]
                        refine take_at (i := 14) (v := ?_) 88 rfl rfl (by kernel_rfl) (by kernel_rfl) (by kernel_rfl) (fun _ _ _ h => h) (Or.inl ⟨by rfl, ?_⟩) (by assumption) ?_
                        rotate_left
                        · intro w hSw; go_simp <;> with_reducible rfl
                        try simp only [Act.put, List.setIfInBounds_toArray, List.set_cons_zero, List.set_cons_succ]
                        refine take_at (i := 15) (v := ?_) 89 rfl rfl (by kernel_rfl) (by kernel_rfl) (by kernel_rfl) (fun _ _ _ h => h) (Or.inl ⟨by rfl, ?_⟩) (by assumption) ?_
                        rotate_left
                        · intro w hSw; go_simp <;> with_reducible rfl
                        try simp only [Act.put, List.setIfInBounds_toArray, List.set_cons_zero, List.set_cons_succ]
                        refine take_at (i := 16) (v := ?_) 90 rfl rfl (by kernel_rfl) (by kernel_rfl) (by kernel_rfl) (fun _ _ _ h => h) (Or.inl ⟨by rfl, ?_⟩) (by assumption) ?_
                        rotate_left
                        · intro w hSw; go_simp <;> with_reducible rfl
                        try simp only [Act.put, List.setIfInBounds_toArray, List.set_cons_zero, List.set_cons_succ]
                        refine take_at (i := 17) (v := ?_) 91 rfl rfl (by kernel_rfl) (by kernel_rfl) (by kernel_rfl) (fun _ _ _ h => h) (Or.inl ⟨by rfl, ?_⟩) (by assumption) ?_
                        rotate_left
                        · intro w hSw; go_simp <;> with_reducible rfl
                        try simp only [Act.put, List.setIfInBounds_toArray, List.set_cons_zero, List.set_cons_succ]
                        refine take_at (i := 18) (v := ?_) 92 rfl rfl (by kernel_rfl) (by kernel_rfl) (by kernel_rfl) (fun _ _ _ h => h) (Or.inl ⟨by rfl, ?_⟩) (by assumption) ?_
                        rotate_left
                        · intro w hSw; go_simp <;> with_reducible rfl
                        try simp only [Act.put, List.setIfInBounds_toArray, List.set_cons_zero, List.set_cons_succ]
                        refine take_at (i := 19) (v := ?_) 93 rfl rfl (by kernel_rfl) (by kernel_rfl) (by kernel_rfl) (fun _ _ _ h => h) (Or.inl ⟨by rfl, ?_⟩) (by assumption) ?_
                        rotate_left
                        · intro w hSw; go_simp <;> with_reducible rfl
                        try simp only [Act.put, List.setIfInBounds_toArray, List.set_cons_zero, List.set_cons_succ]
                        refine take_at (i := 20) (v := ?_) 94 rfl rfl (by kernel_rfl) (by kernel_rfl) (by kernel_rfl) (fun _ _ _ h => h) (Or.inl ⟨by rfl, ?_⟩) (by assumption) ?_
                        rotate_left
                        · intro w hSw; go_simp <;> with_reducible rfl
                        try simp only [Act.put, List.setIfInBounds_toArray, List.set_cons_zero, List.set_cons_succ]
                        refine take_at (i := 21) (v := ?_) 95 rfl rfl (by kernel_rfl) (by kernel_rfl) (by kernel_rfl) (fun _ _ _ h => h) (Or.inl ⟨by rfl, ?_⟩) (by assumption) ?_
                        rotate_left
                        · intro w hSw; go_simp <;> with_reducible rfl
                        try simp only [Act.put, List.setIfInBounds_toArray, List.set_cons_zero, List.set_cons_succ]
                        refine take_at (i := 22) (v := .int .i64 (j : Int)) 96 rfl rfl (by kernel_rfl) (by kernel_rfl) (by kernel_rfl) (fun _ _ _ h => h) (Or.inl ⟨by rfl, ?_⟩) (by assumption) ?_
                        · intro w' hSw
                          go_simp
                          exact i64_in _ (by omega)
                        try simp only [Act.put, List.setIfInBounds_toArray, List.set_cons_zero, List.set_cons_succ]
                        refine take_at (i := 23) (v := .int .i64 (j : Int)) 97 rfl rfl (by kernel_rfl) (by kernel_rfl) (by kernel_rfl) (fun _ _ _ h => h) (Or.inl ⟨by rfl, ?_⟩) (by assumption) ?_
                        · intro w' hSw
                          go_simp
                          all_goals omega
                        try simp only [Act.put, List.setIfInBounds_toArray, List.set_cons_zero, List.set_cons_succ]
                        refine take_at (i := 24) (v := ?_) 98 rfl rfl (by kernel_rfl) (by kernel_rfl) (by kernel_rfl) (fun _ _ _ h => h) (Or.inl ⟨by rfl, ?_⟩) (by assumption) ?_
                        rotate_left
                        · intro w hSw; go_simp <;> with_reducible rfl
                        try simp only [Act.put, List.setIfInBounds_toArray, List.set_cons_zero, List.set_cons_succ]
                        refine take_at (i := 25) (v := ?_) 99 rfl rfl (by kernel_rfl) (by kernel_rfl) (by kernel_rfl) (fun _ _ _ h => h) (Or.inl ⟨by rfl, ?_⟩) (by assumption) ?_
                        rotate_left
                        · intro w hSw; go_simp <;> with_reducible rfl
                        try simp only [Act.put, List.setIfInBounds_toArray, List.set_cons_zero, List.set_cons_succ]
                        refine take_at (i := 26) (v := ?_) 100 rfl rfl (by kernel_rfl) (by kernel_rfl) (by kernel_rfl) (fun _ _ _ h => h) (Or.inl ⟨by rfl, ?_⟩) (by assumption) ?_
                        rotate_left
                        · intro w hSw; go_simp <;> with_reducible rfl
                        try simp only [Act.put, List.setIfInBounds_toArray, List.set_cons_zero, List.set_cons_succ]
                        refine take_at (i := 27) (v := ?_) 101 rfl rfl (by kernel_rfl) (by kernel_rfl) (by kernel_rfl) (fun _ _ _ h => h) (Or.inl ⟨by rfl, ?_⟩) (by assumption) ?_
                        rotate_left
                        · intro w hSw; go_simp <;> with_reducible rfl
                        try simp only [Act.put, List.setIfInBounds_toArray, List.set_cons_zero, List.set_cons_succ]
                        refine take_at (i := 28) (v := ?_) 102 rfl rfl (by kernel_rfl) (by kernel_rfl) (by kernel_rfl) (fun _ _ _ h => h) (Or.inl ⟨by rfl, ?_⟩) (by assumption) ?_
                        rotate_left
                        · intro w hSw; go_simp <;> with_reducible rfl
                        try simp only [Act.put, List.setIfInBounds_toArray, List.set_cons_zero, List.set_cons_succ]
                        refine take_at (i := 29) (v := ?_) 103 rfl rfl (by kernel_rfl) (by kernel_rfl) (by kernel_rfl) (fun _ _ _ h => h) (Or.inl ⟨by rfl, ?_⟩) (by assumption) ?_
                        rotate_left
                        · intro w hSw; go_simp <;> with_reducible rfl
                        try simp only [Act.put, List.setIfInBounds_toArray, List.set_cons_zero, List.set_cons_succ]
                        refine take_at (i := 30) (v := ?_) 104 rfl rfl (by kernel_rfl) (by kernel_rfl) (by kernel_rfl) (fun _ _ _ h => h) (Or.inl ⟨by rfl, ?_⟩) (by assumption) ?_
                        rotate_left
                        · intro w hSw; go_simp <;> with_reducible rfl
                        try simp only [Act.put, List.setIfInBounds_toArray, List.set_cons_zero, List.set_cons_succ]
                        refine take_at (i := 31) (v := ?_) 105 rfl rfl (by kernel_rfl) (by kernel_rfl) (by kernel_rfl) (fun _ _ _ h => h) (Or.inl ⟨by rfl, ?_⟩) (by assumption) ?_
                        rotate_left
                        · intro w hSw; go_simp <;> with_reducible rfl
                        try simp only [Act.put, List.setIfInBounds_toArray, List.set_cons_zero, List.set_cons_succ]
                        refine take_at (i := 32) (v := ?_) 106 rfl rfl (by kernel_rfl) (by kernel_rfl) (by kernel_rfl) (fun _ _ _ h => h) (Or.inl ⟨by rfl, ?_⟩) (by assumption) ?_
                        rotate_left
                        · intro w hSw; go_simp <;> with_reducible rfl
                        try simp only [Act.put, List.setIfInBounds_toArray, List.set_cons_zero, List.set_cons_succ]
                        refine wpAnyH_done (by kernel_rfl) ?_ _
                        clear hHeld HKK
                        go_wp2_with fail
                        go_roundw
                        case rel => exact ⟨j + 1 + 1, by go_num, by omega, HBq.out.drew⟩
                        case measure => simp [intOf]; omega
                  · have HNq := Lib.hid (HN7.out.below HBq.out)
                    have HBB := Lib.hid (HB3.out.trans ((HB7.out.trans (HBq.out.mono HB7.out.size)).mono HB3.out.size))
                    obtain ⟨m, hm⟩ : ∃ m, m = decide (x.serial ∈ N) := ⟨_, rfl⟩
                    have HC := Lib.hid (in_any pb N.length pd N x.serial wr HNq.out (Nat.le_trans HLN.out (by decide)))
                    have HC2 := Lib.hid (in_any pa L.length pc L x.serial wr HWq.out (Nat.le_trans HLW.out (by decide)))
                    rw [← hm] at HC
                    have HM := Lib.hid hm
                    clear hm HB7 HBq HWq HNq
                    go_wp2_with fail
                    refine HC.out.mono ?_
                    rintro e w' ⟨rfl, rfl⟩
                    by_cases k1 : x.kind = 1
                    · have hb : (x.kind == 1) = true := by simp [k1]
                      obtain rfl : m = true := by rw [HM.out]; exact decide_eq_true (HFAR.out.2.1 k1)
                      clear k1
                      go_wp2_with fail
                      go_ret
                      exact ⟨rfl, HBB.out⟩
                    · have hb : (x.kind == 1) = false := by simp [k1]
                      by_cases k2 : x.kind = 2
                      · have hb2 : (x.kind == 2) = true := by simp [k2]
                        obtain rfl : m = false := by rw [HM.out]; exact decide_eq_false (HFAR.out.2.2.1 k2)
                        clear k1 k2
                        go_wp2_with fail
                        go_ret
                        exact ⟨rfl, HBB.out⟩
                      · have hb2 : (x.kind == 2) = false := by simp [k2]
                        have HE : Hid (decide (x.serial ∈ L) = m) := by
                          show _ = _
                          rw [HM.out]
                          exact decide_eq_decide.mpr (HFAR.out.2.2.2 k1 k2).symm
                        rw [HE.out] at HC2
                        clear k1 k2
                        go_wp2_with fail
                        refine HC2.out.mono ?_
                        rintro e w' ⟨rfl, rfl⟩
                        cases m
                        · go_wp2_with fail
                          go_ret
                          exact ⟨rfl, HBB.out⟩
                        · go_wp2_with fail
                          go_ret
                          exact ⟨rfl, HBB.out⟩
          refine wp_region_held_drew (S := fun w' => w'.cell? ⟨w.heap.size, 0, none⟩ = some (.int .i64 x.gate) ∧ w'.cell? ⟨w.heap.size, 1, none⟩ = some (.int .i64 x.number) ∧ w'.cell? ⟨w.heap.size, 2, none⟩ = some (.int .i64 x.time) ∧ w'.cell? ⟨w.heap.size, 3, none⟩ = some (.int .i64 x.serial) ∧ w'.cell? ⟨w.heap.size, 4, none⟩ = some (.int .i64 x.kind) ∧ w'.cell? ⟨w.heap.size, 5, none⟩ = some (.string (bs x.owner))) (by kernel_rfl) (HKX.out w5 (Below.refl _ _)) (fun hHeld => ?_)
          refine take_at (i := 1) (v := ?_) 40 rfl rfl (by kernel_rfl) (by kernel_rfl) (by kernel_rfl) (fun _ _ _ h => h) (Or.inl ⟨by rfl, ?_⟩) (by assumption) ?_
          rotate_left
          · intro w hSw; go_simp <;> with_reducible rfl
          try simp only [Act.put, List.setIfInBounds_toArray, List.set_cons_zero, List.set_cons_succ]
          refine take_at (i := 3) (v := ?_) 42 rfl rfl (by kernel_rfl) (by kernel_rfl) (by kernel_rfl) (fun _ _ _ h => h) (Or.inl ⟨by rfl, ?_⟩) (by assumption) ?_
          rotate_left
          · intro w hSw; go_simp <;> with_reducible rfl
          try simp only [Act.put, List.setIfInBounds_toArray, List.set_cons_zero, List.set_cons_succ]
          refine wpAnyH_ready (rs := [0, 4]) (by kernel_rfl) (by simp) ?_
          refine AllReadyH.cons rfl (fun K' hK => ?_) (AllReadyH.cons rfl (fun K' hK => ?_) AllReadyH.nil)
          · have hb6 : Below w5.heap.size w5 (w5.alloc (.cells #[] 39)).drew := (Joins.below_alloc1 w5 _).drew
            have hv6 : World.ownsRow (w5.alloc (.cells #[] 39)).drew w5.heap.size 39 6 (.slice (some ⟨w5.heap.size, 0, none⟩) 0 0) 0 (flat ScnE []) := ⟨rfl, Or.inr ⟨w5.heap.size, 0, #[], rfl, Nat.le_refl _, World.alloc_heap_new w5 _, Nat.le_refl _, by decide, rfl, rfl⟩⟩
            go_simp
            go_simp
            refine hK.out _ _ (HKX.out _ hb6) (fun hHeld => ?_)
            clear hK K'
            try simp only [Act.put, List.setIfInBounds_toArray, List.set_cons_zero, List.set_cons_succ]
            generalize (w5.alloc (.cells #[] 39)).drew = w6 at *
            refine wpAnyH_ready (rs := [2, 4]) (by kernel_rfl) (by simp) ?_
            refine AllReadyH.cons rfl (fun K' hK => ?_) (AllReadyH.cons rfl (fun K' hK => ?_) AllReadyH.nil)
            · obtain ⟨v7, w7, hrun, ho7, hg7, _⟩ := run_append_scs 22 hv6 (HS5.out.below hb6) (by omega) hb6.size
              have hb7 : Below w5.heap.size w5 w7 := hb6.grown hg7 hb6.size (fun b e => by cases e; exact Nat.le_refl _)
              refine step_append_w (by rfl) (.tmp 39) (.tmp 40) 22 rfl 22 rfl hrun rfl rfl ?_
              go_simp
              refine hK.out _ _ (HKX.out _ hb7) (fun hHeld => ?_)
              clear hK K'
              try simp only [Act.put, List.setIfInBounds_toArray, List.set_cons_zero, List.set_cons_succ]
              have hA := Joins.below_alloc1 w7 (.cells #[.int .i64 x.gate, .int .i64 x.number, .int .i64 x.time, .int .i64 x.serial, .int .i64 x.kind, .string (bs x.owner)] 39)
              have hoz := row_of_heap ho7 fun r hr => hA.block r (ho7.lt r hr).2
              have hrz : RecRow ScnE (w7.alloc (.cells #[.int .i64 x.gate, .int .i64 x.number, .int .i64 x.time, .int .i64 x.serial, .int .i64 x.kind, .string (bs x.owner)] 39)) w7.heap.size 39 [x] := rec_new _ (World.alloc_heap_new w7 _)
              have hbz := hb7.trans (hA.mono hb7.size)
              clear hA
              refine wpAnyH_ready (rs := [4]) (by kernel_rfl) (by simp) ?_
              refine AllReadyH.cons rfl (fun K' hK => ?_) AllReadyH.nil
              go_simp
              go_simp
              refine hK.out _ _ (HKX.out _ hbz) (fun hHeld => ?_)
              clear hK K'
              try simp only [Act.put, List.setIfInBounds_toArray, List.set_cons_zero, List.set_cons_succ]
              generalize w7.alloc (.cells #[.int .i64 x.gate, .int .i64 x.number, .int .i64 x.time, .int .i64 x.serial, .int .i64 x.kind, .string (bs x.owner)] 39) = wz at *
              obtain ⟨v9, w9, hrun9, ho9, hg9, _⟩ := run_append_scs 22 hoz (scs_row hrz) (by show 0 + l.length + 1 ≤ _; omega) hbz.size
              have hb9 : Below w5.heap.size w5 w9 := hbz.grown hg9 hbz.size (fun b e => (hoz.lt b e).1)
              refine wpAnyH_ready (rs := [5]) (by kernel_rfl) (by simp) ?_
              refine AllReadyH.cons rfl (fun K' hK => ?_) AllReadyH.nil
              refine step_append_w (by rfl) (.tmp 41) (.tmp 43) 22 rfl 22 rfl hrun9 rfl rfl ?_
              go_simp
              refine hK.out _ _ (HKX.out _ hb9) (fun hHeld => ?_)
              clear hK K'
              try simp only [Act.put, List.setIfInBounds_toArray, List.set_cons_zero, List.set_cons_succ]
              have hs9 : Scs w9 v9 (l ++ [x]) := Scs.of_row ho9
              refine wpAnyH_ready (rs := [6]) (by kernel_rfl) (by simp) ?_
              refine AllReadyH.cons rfl (fun K' hK => ?_) AllReadyH.nil
              go_simp
              refine (inside_any w9 _ (l ++ [x]) hs9 (by rw [List.length_append]; show l.length + 1 ≤ _; omega) (Nat.le_trans (mergeS_len _) (by rw [List.length_append]; show l.length + 1 ≤ _; omega)) (fun s hs => by
                rcases List.mem_append.mp hs with hs | hs
                · exact HWF.out s hs
                · rw [List.mem_singleton.mp hs]; exact HWX.out)).mono ?_
              rintro e w10 ⟨v10, rfl, hio, hbl⟩
              obtain ⟨pb, pd, rfl, hpb⟩ := Ints.of_own hio
              have hb10 := hb9.trans (hbl.mono hb9.size)
              go_simp
              refine hK.out _ _ (HKX.out _ hb10) (fun hHeld => ?_)
              clear hK K'
              try simp only [Act.put, List.setIfInBounds_toArray, List.set_cons_zero, List.set_cons_succ]
              refine take_at (i := 7) (v := ?_) 8 rfl rfl (by kernel_rfl) (by kernel_rfl) (by kernel_rfl) (fun _ _ _ h => h) (Or.inl ⟨by rfl, ?_⟩) (by assumption) ?_
              rotate_left
              · intro w hSw; go_simp <;> with_reducible rfl
              try simp only [Act.put, List.setIfInBounds_toArray, List.set_cons_zero, List.set_cons_succ]
              refine wpAnyH_done (by kernel_rfl) ?_ _
              go_wp2_with fail
              go_meet
              case rel => exact ⟨pb, pd, rfl, hpb, hb10⟩
            · have hA := Joins.below_alloc1 w6 (.cells #[.int .i64 x.gate, .int .i64 x.number, .int .i64 x.time, .int .i64 x.serial, .int .i64 x.kind, .string (bs x.owner)] 39)
              have hv7 := row_of_heap hv6 fun r hr => hA.block r (hv6.lt r hr).2
              have hr7 : RecRow ScnE (w6.alloc (.cells #[.int .i64 x.gate, .int .i64 x.number, .int .i64 x.time, .int .i64 x.serial, .int .i64 x.kind, .string (bs x.owner)] 39)) w6.heap.size 39 [x] := rec_new _ (World.alloc_heap_new w6 _)
              have hb7 := hb6.trans (hA.mono hb6.size)
              clear hA
              go_simp
              go_simp
              refine hK.out _ _ (HKX.out _ hb7) (fun hHeld => ?_)
              clear hK K'
              try simp only [Act.put, List.setIfInBounds_toArray, List.set_cons_zero, List.set_cons_succ]
              have hne : w5.heap.size < w6.heap.size := (hv6.lt w5.heap.size rfl).2
              generalize w6.alloc (.cells #[.int .i64 x.gate, .int .i64 x.number, .int .i64 x.time, .int .i64 x.serial, .int .i64 x.kind, .string (bs x.owner)] 39) = w7 at *
              generalize w6.heap.size = g7 at *
              obtain ⟨vz, wz, hrun, hoz, hgz, _⟩ := run_append_scs 22 hv7 (HS5.out.below hb7) (by omega) hb7.size
              have hbz : Below w5.heap.size w5 wz := hb7.grown hgz hb7.size (fun b e => by cases e; exact Nat.le_refl _)
              have hrz := hr7.grown hgz (fun e => by cases e; exact absurd hne (Nat.lt_irrefl _))
              refine wpAnyH_ready (rs := [2]) (by kernel_rfl) (by simp) ?_
              refine AllReadyH.cons rfl (fun K' hK => ?_) AllReadyH.nil
              refine step_append_w (by rfl) (.tmp 39) (.tmp 40) 22 rfl 22 rfl hrun rfl rfl ?_
              go_simp
              refine hK.out _ _ (HKX.out _ hbz) (fun hHeld => ?_)
              clear hK K'
              try simp only [Act.put, List.setIfInBounds_toArray, List.set_cons_zero, List.set_cons_succ]
              obtain ⟨v9, w9, hrun9, ho9, hg9, _⟩ := run_append_scs 22 hoz (scs_row hrz) (by show 0 + l.length + 1 ≤ _; omega) hbz.size
              have hb9 : Below w5.heap.size w5 w9 := hbz.grown hg9 hbz.size (fun b e => (hoz.lt b e).1)
              refine wpAnyH_ready (rs := [5]) (by kernel_rfl) (by simp) ?_
              refine AllReadyH.cons rfl (fun K' hK => ?_) AllReadyH.nil
              refine step_append_w (by rfl) (.tmp 41) (.tmp 43) 22 rfl 22 rfl hrun9 rfl rfl ?_
              go_simp
              refine hK.out _ _ (HKX.out _ hb9) (fun hHeld => ?_)
              clear hK K'
              try simp only [Act.put, List.setIfInBounds_toArray, List.set_cons_zero, List.set_cons_succ]
              have hs9 : Scs w9 v9 (l ++ [x]) := Scs.of_row ho9
              refine wpAnyH_ready (rs := [6]) (by kernel_rfl) (by simp) ?_
              refine AllReadyH.cons rfl (fun K' hK => ?_) AllReadyH.nil
              go_simp
              refine (inside_any w9 _ (l ++ [x]) hs9 (by rw [List.length_append]; show l.length + 1 ≤ _; omega) (Nat.le_trans (mergeS_len _) (by rw [List.length_append]; show l.length + 1 ≤ _; omega)) (fun s hs => by
                rcases List.mem_append.mp hs with hs | hs
                · exact HWF.out s hs
                · rw [List.mem_singleton.mp hs]; exact HWX.out)).mono ?_
              rintro e w10 ⟨v10, rfl, hio, hbl⟩
              obtain ⟨pb, pd, rfl, hpb⟩ := Ints.of_own hio
              have hb10 := hb9.trans (hbl.mono hb9.size)
              go_simp
              refine hK.out _ _ (HKX.out _ hb10) (fun hHeld => ?_)
              clear hK K'
              try simp only [Act.put, List.setIfInBounds_toArray, List.set_cons_zero, List.set_cons_succ]
              refine take_at (i := 7) (v := ?_) 8 rfl rfl (by kernel_rfl) (by kernel_rfl) (by kernel_rfl) (fun _ _ _ h => h) (Or.inl ⟨by rfl, ?_⟩) (by assumption) ?_
              rotate_left
              · intro w hSw; go_simp <;> with_reducible rfl
              try simp only [Act.put, List.setIfInBounds_toArray, List.set_cons_zero, List.set_cons_succ]
              refine wpAnyH_done (by kernel_rfl) ?_ _
              go_wp2_with fail
              go_meet
              case rel => exact ⟨pb, pd, rfl, hpb, hb10⟩
          · have hA := Joins.below_alloc1 w5 (.cells #[.int .i64 x.gate, .int .i64 x.number, .int .i64 x.time, .int .i64 x.serial, .int .i64 x.kind, .string (bs x.owner)] 39)
            have hb6 : Below w5.heap.size w5 (w5.alloc (.cells #[.int .i64 x.gate, .int .i64 x.number, .int .i64 x.time, .int .i64 x.serial, .int .i64 x.kind, .string (bs x.owner)] 39)).drew := hA.drew
            have hr6 : RecRow ScnE (w5.alloc (.cells #[.int .i64 x.gate, .int .i64 x.number, .int .i64 x.time, .int .i64 x.serial, .int .i64 x.kind, .string (bs x.owner)] 39)).drew w5.heap.size 39 [x] := (rec_new (w := w5.alloc (.cells #[.int .i64 x.gate, .int .i64 x.number, .int .i64 x.time, .int .i64 x.serial, .int .i64 x.kind, .string (bs x.owner)] 39)) _ (World.alloc_heap_new w5 _)).below (Below.refl _ _).drew
            have hs6 : w5.heap.size < (w5.alloc (.cells #[.int .i64 x.gate, .int .i64 x.number, .int .i64 x.time, .int .i64 x.serial, .int .i64 x.kind, .string (bs x.owner)] 39)).drew.heap.size := hr6.lt
            go_simp
            go_simp
            refine hK.out _ _ (HKX.out _ hb6) (fun hHeld => ?_)
            clear hK K'
            try simp only [Act.put, List.setIfInBounds_toArray, List.set_cons_zero, List.set_cons_succ]
            generalize (w5.alloc (.cells #[.int .i64 x.gate, .int .i64 x.number, .int .i64 x.time, .int .i64 x.serial, .int .i64 x.kind, .string (bs x.owner)] 39)).drew = w6 at *
            have hA := Joins.below_alloc1 w6 (.cells #[] 39)
            have hv7 : World.ownsRow (w6.alloc (.cells #[] 39)) w5.heap.size 39 6 (.slice (some ⟨w6.heap.size, 0, none⟩) 0 0) 0 (flat ScnE []) := ⟨rfl, Or.inr ⟨w6.heap.size, 0, #[], rfl, hb6.size, World.alloc_heap_new w6 _, Nat.le_refl _, by decide, rfl, rfl⟩⟩
            have hr7 := hr6.below hA
            have hb7 := hb6.trans (hA.mono hb6.size)
            clear hA
            refine wpAnyH_ready (rs := [0]) (by kernel_rfl) (by simp) ?_
            refine AllReadyH.cons rfl (fun K' hK => ?_) AllReadyH.nil
            go_simp
            go_simp
            refine hK.out _ _ (HKX.out _ hb7) (fun hHeld => ?_)
            clear hK K'
            try simp only [Act.put, List.setIfInBounds_toArray, List.set_cons_zero, List.set_cons_succ]
            generalize w6.alloc (.cells #[] 39) = w7 at *
            generalize w6.heap.size = g7 at *
            obtain ⟨vz, wz, hrun, hoz, hgz, _⟩ := run_append_scs 22 hv7 (HS5.out.below hb7) (by omega) hb7.size
            have hbz : Below w5.heap.size w5 wz := hb7.grown hgz hb7.size (fun b e => (hv7.lt b e).1)
            have hrz := hr7.grown hgz (fun e => by cases e; exact absurd hs6 (Nat.lt_irrefl _))
            refine wpAnyH_ready (rs := [2]) (by kernel_rfl) (by simp) ?_
            refine AllReadyH.cons rfl (fun K' hK => ?_) AllReadyH.nil
            refine step_append_w (by rfl) (.tmp 39) (.tmp 40) 22 rfl 22 rfl hrun rfl rfl ?_
            go_simp
            refine hK.out _ _ (HKX.out _ hbz) (fun hHeld => ?_)
            clear hK K'
            try simp only [Act.put, List.setIfInBounds_toArray, List.set_cons_zero, List.set_cons_succ]
            obtain ⟨v9, w9, hrun9, ho9, hg9, _⟩ := run_append_scs 22 hoz (scs_row hrz) (by show 0 + l.length + 1 ≤ _; omega) hbz.size
            have hb9 : Below w5.heap.size w5 w9 := hbz.grown hg9 hbz.size (fun b e => (hoz.lt b e).1)
            refine wpAnyH_ready (rs := [5]) (by kernel_rfl) (by simp) ?_
            refine AllReadyH.cons rfl (fun K' hK => ?_) AllReadyH.nil
            refine step_append_w (by rfl) (.tmp 41) (.tmp 43) 22 rfl 22 rfl hrun9 rfl rfl ?_
            go_simp
            refine hK.out _ _ (HKX.out _ hb9) (fun hHeld => ?_)
            clear hK K'
            try simp only [Act.put, List.setIfInBounds_toArray, List.set_cons_zero, List.set_cons_succ]
            have hs9 : Scs w9 v9 (l ++ [x]) := Scs.of_row ho9
            refine wpAnyH_ready (rs := [6]) (by kernel_rfl) (by simp) ?_
            refine AllReadyH.cons rfl (fun K' hK => ?_) AllReadyH.nil
            go_simp
            refine (inside_any w9 _ (l ++ [x]) hs9 (by rw [List.length_append]; show l.length + 1 ≤ _; omega) (Nat.le_trans (mergeS_len _) (by rw [List.length_append]; show l.length + 1 ≤ _; omega)) (fun s hs => by
              rcases List.mem_append.mp hs with hs | hs
              · exact HWF.out s hs
              · rw [List.mem_singleton.mp hs]; exact HWX.out)).mono ?_
            rintro e w10 ⟨v10, rfl, hio, hbl⟩
            obtain ⟨pb, pd, rfl, hpb⟩ := Ints.of_own hio
            have hb10 := hb9.trans (hbl.mono hb9.size)
            go_simp
            refine hK.out _ _ (HKX.out _ hb10) (fun hHeld => ?_)
            clear hK K'
            try simp only [Act.put, List.setIfInBounds_toArray, List.set_cons_zero, List.set_cons_succ]
            refine take_at (i := 7) (v := ?_) 8 rfl rfl (by kernel_rfl) (by kernel_rfl) (by kernel_rfl) (fun _ _ _ h => h) (Or.inl ⟨by rfl, ?_⟩) (by assumption) ?_
            rotate_left
            · intro w hSw; go_simp <;> with_reducible rfl
            try simp only [Act.put, List.setIfInBounds_toArray, List.set_cons_zero, List.set_cons_succ]
            refine wpAnyH_done (by kernel_rfl) ?_ _
            go_wp2_with fail
            go_meet
            case rel => exact ⟨pb, pd, rfl, hpb, hb10⟩
end Go.Proofs.Ytpmoelkblngamaa
