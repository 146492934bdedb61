/- merge: MergeHonest: the walk. -/
import Derived.Test.YtpmoelkblngamaaD6
import Derived.Test.YtpmoelkblngamaaNH
namespace Go.Proofs.Ytpmoelkblngamaa
open Go.RowKit Go.IntWalk Go.Maps Go.WideMaps

set_option maxRecDepth 100000 in
set_option maxHeartbeats 3200000 in
theorem honest_law (w : World) (la : Option Addr) (n c : Nat) (l : List StepT) (h : Recs StE w la n l) (hn : n ≤ 9223372036854775807) (hb : ∀ s ∈ l, s.1 ≤ 255 ∧ s.2.1 ≤ 255 ∧ s.2.2 ≤ 255) :
    Calls Try.prog 5 #[.slice la n c] w fun e w' => e = .returned (.bool true) ∧ Below w.heap.size w w' := by
  obtain rfl : l.length = n := h.1
  have HL := Lib.hid h
  have HBD := Lib.hid hb
  clear h hb
  obtain ⟨arr, hs, hz, hmk⟩ := make_ints 256 (by decide)
  have hmk : ∀ w : World, (Instr.makeSlice 34 (.int .i64 256) (.int .i64 256)).run Try.prog w = .ok (.slice (some ⟨w.heap.size, 0, none⟩) 256 256) (w.alloc (.cells arr 3)) := hmk
  have HARR : Hid (∀ w : World, IntRow (w.alloc (.cells arr 3)) w.heap.size 3 (List.replicate 256 0)) := fun w => IntRow.made rfl hs hz
  clear hs hz
  go_enter Try.func5, Try.ntmps5
  go_wp2_with fail
  refine (head_any w).mono ?_
  rintro e w1 ⟨rfl, hbl⟩
  have HL1 := Lib.hid (HL.out.below hbl)
  have HW1 := Lib.hid hbl
  clear hbl HL
  by_cases hn60 : l.length ≤ 60
  rotate_left
  · go_wp2_with fail
    go_ret
    exact ⟨rfl, HW1.out⟩
  go_wp2_with fail
  refine (honest_any w1 la l.length c l HL1.out hn60 HBD.out).mono ?_
  rintro e w2 ⟨v4, rfl, ho, hbl⟩
  rw [← hon_sz l] at ho
  have HS2 : Hid (Scs w2 v4 (honS l).out) := Scs.of_row ho
  have HL2 := Lib.hid (HL1.out.below hbl)
  have HW2 := Lib.hid (HW1.out.trans (hbl.mono HW1.out.size))
  clear ho hbl HL1 HW1
  have HSZ := Lib.hid (hon_sz l)
  have HWF : Hid (∀ s ∈ (honS l).out, WfS s) := fun s hs => (hon_ok l HBD.out hn60 s hs).wf
  have HBE := Lib.hid (hon_blames l)
  have HIE := Lib.hid (hon_inside l HBD.out hn60)
  generalize (honS l).out = L at *
  go_wp2_with fail
  refine (mblames_any w2 v4 L none 0 0 [] 0 HS2.out (by have := HSZ.out; omega) (Nat.le_trans (mergeS_len L) (by have := HSZ.out; omega)) (Recs.none _) (by decide) HWF.out).mono ?_
  rintro e w3 ⟨pa, pc, rfl, _, hbl⟩
  rw [show blamesS (goneOf []) 0 L = [] from HBE.out]
  have HS3 := Lib.hid (HS2.out.below hbl)
  have HL3 := Lib.hid (HL2.out.below hbl)
  have HW3 := Lib.hid (HW2.out.trans (hbl.mono HW2.out.size))
  clear hbl HS2 HL2 HW2
  have HROW : Hid (∃ D, IntRow (w3.alloc (.cells arr 3)) w3.heap.size 3 D ∧ D.length = 256 ∧ ∀ k, k < 256 → ix D k = (cntS (l.take 0) k : Nat)) := ⟨_, HARR.out w3, by rw [List.length_replicate], fun k hk => by unfold ix; rw [List.getD_eq_getElem?_getD, List.getElem?_replicate, if_pos hk]; rfl⟩
  have HB4 := Lib.hid (Joins.below_alloc1 w3 (.cells arr 3))
  go_wp2_with fail
  generalize w3.alloc (.cells arr 3) = w4 at *
  go_loopw [6] (fun v6 wr => ∃ i : Nat, v6 = .int .i64 i ∧ i ≤ l.length ∧ Hid (Below w3.heap.size w3 wr) ∧ Hid (∃ D, IntRow wr w3.heap.size 3 D ∧ D.length = 256 ∧ ∀ k, k < 256 → ix D k = (cntS (l.take i) k : Nat))) (fun v6 _ => l.length - (intOf v6).toNat)
  case atStart => exact ⟨0, rfl, Nat.zero_le _, HB4.out, HROW.out⟩
  case round =>
    clear HB4 HROW
    obtain ⟨i, rfl, hi, HBr, HROW⟩ := hrel
    by_cases hlt : i < l.length
    · obtain ⟨b1, o1, rfl, c0, c1, c2⟩ := st_at (HL3.out.below HBr.out) i hlt hlt
      have HCN := Lib.hid (cnt_next hlt)
      obtain ⟨_, hx1, _⟩ := HBD.out _ (List.getElem_mem hlt)
      generalize l[i].2.1 = x at *
      clear c0 c2
      obtain ⟨D, hr, hdl, hdf⟩ := HROW.out
      have q1 : wr.cell? ⟨w3.heap.size, x, none⟩ = some (.int .i64 (cntS (l.take i) x : Nat)) := by rw [hr.cell x (by omega), hdf x (by omega)]
      have q2 : wr.frozen? ⟨w3.heap.size, x, none⟩ = false := hr.free x
      have hq := cnt_le (l.take i) x
      rw [List.length_take] at hq
      have HR5 : Hid (∃ D, IntRow (wr.setCell ⟨w3.heap.size, x, none⟩ (.int .i64 ((cntS (l.take i) x : Int) + 1))) w3.heap.size 3 D ∧ D.length = 256 ∧ ∀ k, k < 256 → ix D k = (cntS (l.take (i + 1)) k : Nat)) := by
        refine ⟨_, hr.set x (by omega) _, by rw [List.length_set]; exact hdl, fun k hk => ?_⟩
        rw [ix_set _ _ _ _ (by omega), HCN.out k]
        by_cases e : x = k
        · subst e
          rw [if_pos rfl, if_pos rfl]
          omega
        · rw [if_neg e, if_neg e]
          exact hdf k hk
      have HB5 : Hid (Below w3.heap.size w3 (wr.setCell ⟨w3.heap.size, x, none⟩ (.int .i64 ((cntS (l.take i) x : Int) + 1)))) := HBr.out.grown (grown_setCell wr w3.heap.size x _) HBr.out.size (fun b e => by cases e; exact Nat.le_refl _)
      clear HROW hr hdl hdf HCN
      have HQ : Hid ((cntS (l.take i) x) = cntS (l.take i) x) := rfl
      generalize cntS (l.take i) x = q at *
      have hx6 : (x : Int) < 256 := by omega
      go_wp2_with fail
      go_roundw
      case rel => exact ⟨i + 1, by go_num, hlt, HB5.out, HR5.out⟩
      case measure => (simp [intOf] <;> omega)
    · have hi2 : i = l.length := by omega
      subst hi2
      rw [List.take_length] at HROW
      have HS5 := Lib.hid (HS3.out.below HBr.out)
      have HW5 := Lib.hid (HW3.out.trans (HBr.out.mono HW3.out.size))
      have hgs : w3.heap.size < wr.heap.size := by
        obtain ⟨D, hr, _⟩ := HROW.out
        exact hr.lt
      generalize w3.heap.size = g5 at *
      clear HS3 HL3 HW3 HBr
      go_wp2_with fail
      go_loopw [7, 8] (fun v7 v8 wx => ∃ k : Nat, v8 = .int .i64 k ∧ k ≤ 256 ∧ Hid (wx.ownsRow wr.heap.size 3 1 v7 (oddT l k).length ((oddT l k).map (Value.int .i64))) ∧ Hid (Below wr.heap.size wr wx)) (fun _ v8 _ => 256 - (intOf v8).toNat)
      case atStart => exact ⟨0, rfl, Nat.zero_le _, ⟨rfl, Or.inl ⟨rfl, rfl⟩⟩, Below.refl _ _⟩
      case round =>
        obtain ⟨k, rfl, hk, HO, HBx⟩ := hrel
        by_cases hlt2 : k < 256
        · obtain ⟨D, hr, hdl, hdf⟩ := HROW.out
          have q1 := (hr.below HBx.out).cell k (by omega)
          rw [hdf k hlt2] at q1
          have HON := Lib.hid (odd_next l k)
          have hol := odd_len l k
          have hcl := cnt_le l k
          have hk6 : (k : Int) < 256 := by omega
          clear hr hdl hdf
          by_cases hodd : cntS l k % 2 = 1
          · rw [if_pos hodd] at HON
            have hb : ((cntS l k : Int) % 2 == 1) = true := by simp; omega
            clear hodd
            generalize cntS l k = q at *
            go_upto_region 17 with fail
            have hb6 := Joins.below_alloc1 wr (.cells #[.int .i64 (k : Int)] 3)
            have HO6 := Lib.hid (row_of_heap (w' := wr.alloc (.cells #[.int .i64 (k : Int)] 3)) HO.out fun r hr => hb6.block r (HO.out.lt r hr).2)
            have HB6 := Lib.hid (HBx.out.trans (hb6.mono HBx.out.size))
            clear hb6 HO HBx
            go_wp2_with (at_builtin; refine wpList_append_int rfl (.tmp 47) (.tmp 49) rfl rfl rfl HO6.out (World.alloc_heap_new wr _) (by omega) HB6.out.size ?_; intro v' w7 ho7 hg7 _; have HO7 := Lib.hid ho7; have HB7 := Lib.hid (HB6.out.grown hg7 HB6.out.size (fun b e => (HO6.out.lt b e).1)); clear ho7 hg7)
            go_roundw
            case rel => exact ⟨k + 1, by go_num, hlt2, by rw [HON.out, List.length_append]; exact HO7.out, HB7.out⟩
            case measure => (simp [intOf] <;> omega)
          · rw [if_neg hodd, List.append_nil] at HON
            have hb : ((cntS l k : Int) % 2 == 1) = false := by simp; omega
            clear hodd
            generalize cntS l k = q at *
            go_wp2_with fail
            go_roundw
            case rel => exact ⟨k + 1, by go_num, hlt2, by rw [HON.out]; exact HO.out, HBx.out⟩
            case measure => (simp [intOf] <;> omega)
        · have hk2 : k = 256 := by omega
          subst hk2
          obtain ⟨ja, jc, rfl, hJ⟩ := Ints.of_own HO.out
          have HJ := Lib.hid hJ
          have HS6 := Lib.hid (HS5.out.below HBx.out)
          have HW6 := Lib.hid (HW5.out.trans (HBx.out.mono HW5.out.size))
          have hol := odd_len l 256
          rw [← HIE.out] at HJ hol ⊢
          have HC := Lib.hid (inside_any wr v4 L HS6.out (by have := HSZ.out; omega) (Nat.le_trans (mergeS_len L) (by have := HSZ.out; omega)) HWF.out)
          generalize insideS L = I at *
          clear HO hJ HBx HS5 HW5 HROW
          go_wp2_with fail
          refine HC.out.mono ?_
          rintro e w7 ⟨u7, rfl, hio, hbl⟩
          obtain ⟨ia, ic, rfl, hI⟩ := Ints.of_own hio
          have HI7 := Lib.hid hI
          have HJ7 := Lib.hid (HJ.out.below hbl)
          have HW7 := Lib.hid (HW6.out.trans (hbl.mono HW6.out.size))
          clear hio hI hbl HJ HW6 HC
          go_wp2_with fail
          refine (ints_any ia ja I.length ic I.length jc I I w7 HI7.out HJ7.out (by omega) (by omega)).mono ?_
          rintro e w8 ⟨he, hq⟩
          rw [show decide (I = I) = true from decide_eq_true rfl] at he
          subst he
          have HW8 := Lib.hid (HW7.out.trans (hq.below.mono HW7.out.size))
          clear hq
          go_wp2_with fail
          go_ret
          exact ⟨rfl, HW8.out⟩
end Go.Proofs.Ytpmoelkblngamaa
