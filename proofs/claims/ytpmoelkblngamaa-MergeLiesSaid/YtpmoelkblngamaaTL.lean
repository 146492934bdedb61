/- merge: MergeLies: the walk. -/
import Derived.Test.YtpmoelkblngamaaD6
import Derived.Test.YtpmoelkblngamaaNH
import Derived.Test.YtpmoelkblngamaaE2
namespace Go.Proofs.Ytpmoelkblngamaa
open Go.RowKit Go.IntWalk Go.Maps Go.WideMaps

theorem recs_take {w : World} {la : Option Addr} {n : Nat} {E : List Scn} (h : Recs ScnE w la n E) (i : Nat) (hi : i ≤ n) : Recs ScnE w la i (E.take i) := by
  have hl := h.1
  refine ⟨by simp; omega, fun k hk => ?_⟩
  obtain ⟨b, o, e, c⟩ := h.2 k (by omega)
  refine ⟨b, o, e, fun j hj => ?_⟩
  rw [c j hj, rc_eq _ _ (by omega), rc_eq _ _ (by simp; omega), List.getElem_take]

theorem recs_drop {w : World} {b o : Nat} {n : Nat} {E : List Scn} (h : Recs ScnE w (some ⟨b, o, none⟩) n E) (i : Nat) (hi : i ≤ n) : Recs ScnE w (some ⟨b, o + i * 6, none⟩) (n - i) (E.drop i) := by
  have hl := h.1
  refine ⟨by simp; omega, fun k hk => ⟨b, o + i * 6, rfl, fun j hj => ?_⟩⟩
  obtain ⟨b', o', e, c⟩ := h.2 (i + k) (by omega)
  cases e
  have := c j hj
  rw [show o + (i + k) * 6 + j = o + i * 6 + k * 6 + j from by omega] at this
  rw [this, rc_eq _ _ (by omega), rc_eq _ _ (by simp; omega), List.getElem_drop]

theorem recs_rest {w : World} {b o n c : Nat} {E : List Scn} (h : Recs ScnE w (some ⟨b, o, none⟩) n E) (i : Nat) (hi : i ≤ n) (hc : n ≤ c) : Recs ScnE w (if c = i then some ⟨b, o, none⟩ else some ⟨b, o + i * 6, none⟩) (n - i) (E.drop i) := by
  by_cases e : c = i
  · rw [if_pos e]
    rw [show n - i = 0 from by omega, List.drop_of_length_le (by have := h.1; omega)]
    exact ⟨rfl, fun i hi => by omega⟩
  · rw [if_neg e]
    exact recs_drop h i hi

theorem any_named {gone : List GoneT} {st : Int} {l : List Scn} {k g n : Int} (h : ∃ b, IsBl gone (staleN st) (setK KS l) b ∧ b.kind = k ∧ b.gate = g ∧ b.number = n) : (blamesS gone st l).any (namedP k g n) = true := by
  obtain ⟨b, hb, h1, h2, h3⟩ := h
  rw [List.any_eq_true]
  exact ⟨b, blames_mem.mpr hb, by unfold namedP; exact decide_eq_true ⟨h1, h2, h3⟩⟩

theorem any_next2 {α : Type} {l : List α} {k : Nat} (f : α → Bool) (h : k < l.length) : (l.take (k + 1)).any f = ((l.take k).any f || f l[k]) := by
  rw [List.take_succ_eq_append_getElem h, List.any_append]
  simp

/-- A scan of the same gate, with a greater number. -/
def laterB (x y : Scn) : Bool := decide (y.gate = x.gate) && decide (x.number < y.number)

set_option maxRecDepth 100000 in
set_option maxHeartbeats 40000000 in
theorem lies_law (w : World) (la : Option Addr) (n c : Nat) (l : List StepT) (z : Nat) (ser : Int) (h : Recs StE w la n l) (hn : n ≤ 9223372036854775807) (hb : ∀ s ∈ l, s.1 ≤ 255 ∧ s.2.1 ≤ 255 ∧ s.2.2 ≤ 255) (hz : z ≤ 255) (hser : (Lit.int .i64 ser).wf = true) :
    Calls Try.prog 7 #[.slice la n c, .int .u8 z, .int .i64 ser] w fun e w' => e = .returned (.bool true) ∧ Below w.heap.size w w' := by
  obtain rfl : l.length = n := h.1
  have HL := Lib.hid h
  have HBD := Lib.hid hb
  have HSE := Lib.hid hser
  clear h hb hser
  go_enter Try.func7, Try.ntmps7
  go_wp2_with fail
  refine (head_any w).mono ?_
  rintro e w1 ⟨rfl, hbl⟩
  have HL1 := Lib.hid (HL.out.below hbl)
  have HW1 := Lib.hid hbl
  clear hbl HL
  by_cases hn0 : l.length = 0
  · rw [hn0]
    go_wp2_with fail
    go_ret
    exact ⟨rfl, HW1.out⟩
  by_cases hn60 : l.length ≤ 60
  rotate_left
  · go_wp2_with fail
    go_ret
    exact ⟨rfl, HW1.out⟩
  have hne0 : ((l.length : Int) == 0) = false := by simp; exact fun e => hn0 (by rw [e]; rfl)
  go_wp2_with fail
  refine (honest_any w1 la l.length c l HL1.out hn60 HBD.out).mono ?_
  rintro e w2 ⟨v4, rfl, ho, hbl⟩
  have hsz := hon_sz l
  rw [← hsz] at ho
  rw [← hsz] at hn0 hn60 hne0
  obtain ⟨b1, uc, rfl, huc, _, _, hor⟩ := RecRow.of_row (by omega) ho
  have HR2 := Lib.hid hor.recs
  have HW2 := Lib.hid (HW1.out.trans (hbl.mono HW1.out.size))
  have HWF : Hid (∀ s ∈ (honS l).out, OkH s) := hon_ok l HBD.out (by omega)
  have HGAP := Lib.hid (fun k (hk : k < (honS l).out.length) v hv hg hnn => lie_gap (hon_all l) hk (by omega) (v := v) hv hg hnn)
  have HFORK := Lib.hid (fun k (hk : k < (honS l).out.length) => lie_fork (hon_all l) hk ser)
  have HORD := Lib.hid (fun k (hk : k < (honS l).out.length) a ha hg hnn => lie_order (hon_all l) hk (a := a) ha hg hnn)
  clear ho hor hbl HL1 HW1 HBD hsz
  generalize (honS l).out = L at *
  clear hn
  have hk : (z % L.length : Nat) < L.length := Nat.mod_lt _ (by omega)
  have hke : (z : Int) % (L.length : Int) = ((z % L.length : Nat) : Int) := by first | exact (Int.natCast_emod _ _).symm | exact (Int.natCast_mod _ _).symm | rfl | simp
  obtain ⟨k, hkk⟩ : ∃ k, k = z % L.length := ⟨_, rfl⟩
  rw [← hkk] at hk hke
  clear hkk
  obtain ⟨_, o1, e', c0, c1, c2, c3, c4, c5⟩ := scn_at HR2.out k hk hk
  cases e'
  rw [Nat.zero_add] at c0 c1 c2 c3 c4 c5
  have HX : Hid (OkH L[k]) := HWF.out _ (List.getElem_mem hk)
  have HGAP := Lib.hid (HGAP.out k hk)
  have HFORK := Lib.hid (any_named (st := 0) (gone := []) (HFORK.out k hk))
  have HORD := Lib.hid (HORD.out k hk)
  have HLM : Hid (∀ s ∈ L.take k ++ L.drop (k + 1), s ∈ L) := fun s hs => by
    rcases List.mem_append.mp hs with hs | hs
    · exact List.mem_of_mem_take hs
    · exact List.mem_of_mem_drop hs
  generalize L[k] = x at *
  have hki : (k : Int) < L.length := by omega
  go_upto_region 6 with fail
  rw [hke]
  go_upto_region 7 with fail
  have hA := Joins.below_alloc1 w2 (.cells #[.int .i64 x.gate, .int .i64 x.number, .int .i64 x.time, .int .i64 x.serial, .int .i64 x.kind, .string (bs x.owner)] 39)
  have HX5 : Hid ((w2.alloc (.cells #[.int .i64 x.gate, .int .i64 x.number, .int .i64 x.time, .int .i64 x.serial, .int .i64 x.kind, .string (bs x.owner)] 39)).heap[w2.heap.size]? = some (.cells #[.int .i64 x.gate, .int .i64 x.number, .int .i64 x.time, .int .i64 x.serial, .int .i64 x.kind, .string (bs x.owner)] 39 (0, 0))) := World.alloc_heap_new w2 _
  have HR5 := Lib.hid (HR2.out.below hA)
  have HW5 := Lib.hid (HW2.out.trans (hA.mono HW2.out.size))
  have HWS : Hid (w.heap.size ≤ (w2.alloc (.cells #[.int .i64 x.gate, .int .i64 x.number, .int .i64 x.time, .int .i64 x.serial, .int .i64 x.kind, .string (bs x.owner)] 39)).heap.size) := HW5.out.size
  clear hA HR2 HW2 c0 c1 c2 c3 c4 c5
  generalize w2.alloc (.cells #[.int .i64 x.gate, .int .i64 x.number, .int .i64 x.time, .int .i64 x.serial, .int .i64 x.kind, .string (bs x.owner)] 39) = w5 at *
  generalize w2.heap.size = gx at *
  have HKX : Hid (∀ w' : World, Below w5.heap.size w5 w' → w'.cell? ⟨gx, 0, none⟩ = some (.int .i64 x.gate) ∧ w'.cell? ⟨gx, 1, none⟩ = some (.int .i64 x.number) ∧ w'.cell? ⟨gx, 2, none⟩ = some (.int .i64 x.time) ∧ w'.cell? ⟨gx, 3, none⟩ = some (.int .i64 x.serial) ∧ w'.cell? ⟨gx, 4, none⟩ = some (.int .i64 x.kind) ∧ w'.cell? ⟨gx, 5, none⟩ = some (.string (bs x.owner))) := fun w' hb =>
    ⟨Below.cell_of hb (cell_of_row (j := 0) _ _ _ _ _ HX5.out), Below.cell_of hb (cell_of_row (j := 1) _ _ _ _ _ HX5.out), Below.cell_of hb (cell_of_row (j := 2) _ _ _ _ _ HX5.out), Below.cell_of hb (cell_of_row (j := 3) _ _ _ _ _ HX5.out), Below.cell_of hb (cell_of_row (j := 4) _ _ _ _ _ HX5.out), Below.cell_of hb (cell_of_row (j := 5) _ _ _ _ _ HX5.out)⟩
  go_cut [11] (fun v11 wx => wx.ownsRow w5.heap.size 39 6 v11 (L.length - 1) (flat ScnE (L.take k ++ L.drop (k + 1))) ∧ Below w5.heap.size w5 wx)
  case rest =>
    obtain ⟨hro, hb⟩ := hcut
    have HRO := Lib.hid hro
    have HB6 := Lib.hid hb
    clear hro hb
    go_wp2_with fail
    go_loopw [12, 13, 14] (fun v12 v13 v14 wx => ∃ (i : Nat) (ah : Int), v14 = .int .i64 i ∧ i ≤ L.length ∧ v12 = .bool ((L.take i).any (laterB x)) ∧ v13 = .int .i64 ah ∧ Hid (ah = -1 ∨ ∃ (j : Nat) (hj : j < L.length), ah = j ∧ L[j].gate = x.gate ∧ L[j].number = x.number - 1) ∧ Hid (Below w5.heap.size w5 wx) ∧ Hid (Below wc.heap.size wc wx)) (fun _ _ v14 _ => L.length - (intOf v14).toNat)
    case atStart => exact ⟨0, -1, rfl, Nat.zero_le _, rfl, rfl, Or.inl rfl, HB6.out, Below.refl _ _⟩
    case round =>
      obtain ⟨i, ah, rfl, hi, rfl, rfl, HAH, HBr, HBc⟩ := hrel
      by_cases hlt : i < L.length
      · have HAN := Lib.hid (any_next2 (laterB x) hlt)
        obtain ⟨_, o1, e', d0, d1, _⟩ := scn_at (HR5.out.below HBr.out) i hlt hlt
        cases e'
        rw [Nat.zero_add] at d0 d1
        have HGJ : Hid (∀ (y : Scn), y = L[i] → y.gate = x.gate → y.number = x.number - 1 → ∃ (j : Nat) (hj : j < L.length), (i : Int) = j ∧ L[j].gate = x.gate ∧ L[j].number = x.number - 1) := fun y e h1 h2 => ⟨i, hlt, rfl, by rw [← e]; exact h1, by rw [← e]; exact h2⟩
        have HGJ := Lib.hid (HGJ.out L[i] rfl)
        obtain ⟨e0, e1, _⟩ := HKX.out _ HBr.out
        have HOX : Hid (-1000000 ≤ x.number ∧ x.number ≤ 1000000) := by have := HX.out.2.2.1; have := HX.out.2.2.2.1; exact ⟨by omega, by omega⟩
        generalize L[i] = y at *
        have HKK : Hid (∀ w' : World, Below wr.heap.size wr w' → w'.cell? ⟨b1, i * 6, none⟩ = some (.int .i64 y.gate) ∧ w'.cell? ⟨b1, i * 6 + 1, none⟩ = some (.int .i64 y.number) ∧ w'.cell? ⟨gx, 0, none⟩ = some (.int .i64 x.gate) ∧ w'.cell? ⟨gx, 1, none⟩ = some (.int .i64 x.number)) := fun w' hb =>
          ⟨Below.cell_of hb d0, Below.cell_of hb d1, Below.cell_of hb e0, Below.cell_of hb e1⟩
        clear d0 d1 e0 e1
        generalize (L.take i).any (laterB x) = lt1 at *
        go_upto_region 13 with fail
        go_cut [12] from 48 to 94 (fun v12 wx => v12 = .bool ((L.take (i + 1)).any (laterB x)) ∧ Hid (Below wr.heap.size wr wx))
        case rest =>
          obtain ⟨rfl, HBm⟩ := hcut
          have HKM := Lib.hid (fun w' (hb : Below wc.heap.size wc w') => HKK.out w' (HBm.out.trans (hb.mono HBm.out.size)))
          have HB7 := Lib.hid (HBr.out.trans (HBm.out.mono HBr.out.size))
          have HB8 := Lib.hid (HBc.out.trans (HBm.out.mono HBc.out.size))
          clear HKK HBm HBr HBc
          have hnx := HOX.out
          by_cases h1 : y.gate = x.gate
          rotate_left
          · have hb1 : (y.gate == x.gate) = false := by simp [h1]
            clear h1
            go_upto_region 14 with fail
            refine wp_region_held_drew (S := fun w' => w'.cell? ⟨b1, i * 6, none⟩ = some (.int .i64 y.gate) ∧ w'.cell? ⟨b1, i * 6 + 1, none⟩ = some (.int .i64 y.number) ∧ w'.cell? ⟨gx, 0, none⟩ = some (.int .i64 x.gate) ∧ w'.cell? ⟨gx, 1, none⟩ = some (.int .i64 x.number)) (by kernel_rfl) (HKM.out wc (Below.refl _ _)) (fun hHeld => ?_)
            refine take_at (i := 0) (v := ?_) 75 rfl rfl (by kernel_rfl) (by kernel_rfl) (by kernel_rfl) (fun _ _ _ h => h) (Or.inl ⟨by rfl, ?_⟩) (by assumption) ?_
            rotate_left
            · intro w hSw; go_simp <;> with_reducible rfl
            try simp only [Act.put, List.setIfInBounds_toArray, List.set_cons_zero, List.set_cons_succ]
            refine take_at (i := 1) (v := ?_) 76 rfl rfl (by kernel_rfl) (by kernel_rfl) (by kernel_rfl) (fun _ _ _ h => h) (Or.inl ⟨by rfl, ?_⟩) (by assumption) ?_
            rotate_left
            · intro w hSw; go_simp <;> with_reducible rfl
            try simp only [Act.put, List.setIfInBounds_toArray, List.set_cons_zero, List.set_cons_succ]
            refine take_at (i := 2) (v := ?_) 77 rfl rfl (by kernel_rfl) (by kernel_rfl) (by kernel_rfl) (fun _ _ _ h => h) (Or.inl ⟨by rfl, ?_⟩) (by assumption) ?_
            rotate_left
            · intro w hSw; go_simp <;> with_reducible rfl
            try simp only [Act.put, List.setIfInBounds_toArray, List.set_cons_zero, List.set_cons_succ]
            refine take_at (i := 3) (v := ?_) 78 rfl rfl (by kernel_rfl) (by kernel_rfl) (by kernel_rfl) (fun _ _ _ h => h) (Or.inl ⟨by rfl, ?_⟩) (by assumption) ?_
            rotate_left
            · intro w hSw; go_simp <;> with_reducible rfl
            try simp only [Act.put, List.setIfInBounds_toArray, List.set_cons_zero, List.set_cons_succ]
            refine take_at (i := 4) (v := ?_) 79 rfl rfl (by kernel_rfl) (by kernel_rfl) (by kernel_rfl) (fun _ _ _ h => h) (Or.inl ⟨by rfl, ?_⟩) (by assumption) ?_
            rotate_left
            · intro w hSw; go_simp <;> with_reducible rfl
            try simp only [Act.put, List.setIfInBounds_toArray, List.set_cons_zero, List.set_cons_succ]
            refine take_at (i := 5) (v := ?_) 80 rfl rfl (by kernel_rfl) (by kernel_rfl) (by kernel_rfl) (fun _ _ _ h => h) (Or.inl ⟨by rfl, ?_⟩) (by assumption) ?_
            rotate_left
            · intro w hSw; go_simp <;> with_reducible rfl
            try simp only [Act.put, List.setIfInBounds_toArray, List.set_cons_zero, List.set_cons_succ]
            refine take_at (i := 6) (v := ?_) 81 rfl rfl (by kernel_rfl) (by kernel_rfl) (by kernel_rfl) (fun _ _ _ h => h) (Or.inl ⟨by rfl, ?_⟩) (by assumption) ?_
            rotate_left
            · intro w hSw; go_simp <;> with_reducible rfl
            try simp only [Act.put, List.setIfInBounds_toArray, List.set_cons_zero, List.set_cons_succ]
            refine take_at (i := 7) (v := ?_) 82 rfl rfl (by kernel_rfl) (by kernel_rfl) (by kernel_rfl) (fun _ _ _ h => h) (Or.inl ⟨by rfl, ?_⟩) (by assumption) ?_
            rotate_left
            · intro w hSw; go_simp <;> with_reducible rfl
            try simp only [Act.put, List.setIfInBounds_toArray, List.set_cons_zero, List.set_cons_succ]
            refine take_at (i := 8) (v := ?_) 83 rfl rfl (by kernel_rfl) (by kernel_rfl) (by kernel_rfl) (fun _ _ _ h => h) (Or.inl ⟨by rfl, ?_⟩) (by assumption) ?_
            rotate_left
            · intro w hSw; go_simp <;> with_reducible rfl
            try simp only [Act.put, List.setIfInBounds_toArray, List.set_cons_zero, List.set_cons_succ]
            refine take_at (i := 9) (v := undef) 84 rfl rfl (by kernel_rfl) (by kernel_rfl) (by kernel_rfl) (fun _ _ _ h => h) (Or.inr ⟨by rfl, rfl⟩) (by assumption) ?_
            try simp only [Act.put, List.setIfInBounds_toArray, List.set_cons_zero, List.set_cons_succ]
            refine take_at (i := 10) (v := undef) 85 rfl rfl (by kernel_rfl) (by kernel_rfl) (by kernel_rfl) (fun _ _ _ h => h) (Or.inr ⟨by rfl, rfl⟩) (by assumption) ?_
            try simp only [Act.put, List.setIfInBounds_toArray, List.set_cons_zero, List.set_cons_succ]
            refine take_at (i := 11) (v := undef) 86 rfl rfl (by kernel_rfl) (by kernel_rfl) (by kernel_rfl) (fun _ _ _ h => h) (Or.inr ⟨by rfl, rfl⟩) (by assumption) ?_
            try simp only [Act.put, List.setIfInBounds_toArray, List.set_cons_zero, List.set_cons_succ]
            refine take_at (i := 12) (v := undef) 87 rfl rfl (by kernel_rfl) (by kernel_rfl) (by kernel_rfl) (fun _ _ _ h => h) (Or.inr ⟨by rfl, rfl⟩) (by assumption) ?_
            try simp only [Act.put, List.setIfInBounds_toArray, List.set_cons_zero, List.set_cons_succ]
            refine take_at (i := 13) (v := undef) 88 rfl rfl (by kernel_rfl) (by kernel_rfl) (by kernel_rfl) (fun _ _ _ h => h) (Or.inr ⟨by rfl, rfl⟩) (by assumption) ?_
            try simp only [Act.put, List.setIfInBounds_toArray, List.set_cons_zero, List.set_cons_succ]
            refine take_at (i := 14) (v := undef) 89 rfl rfl (by kernel_rfl) (by kernel_rfl) (by kernel_rfl) (fun _ _ _ h => h) (Or.inr ⟨by rfl, rfl⟩) (by assumption) ?_
            try simp only [Act.put, List.setIfInBounds_toArray, List.set_cons_zero, List.set_cons_succ]
            refine take_at (i := 15) (v := undef) 90 rfl rfl (by kernel_rfl) (by kernel_rfl) (by kernel_rfl) (fun _ _ _ h => h) (Or.inr ⟨by rfl, rfl⟩) (by assumption) ?_
            try simp only [Act.put, List.setIfInBounds_toArray, List.set_cons_zero, List.set_cons_succ]
            refine take_at (i := 16) (v := undef) 91 rfl rfl (by kernel_rfl) (by kernel_rfl) (by kernel_rfl) (fun _ _ _ h => h) (Or.inr ⟨by rfl, rfl⟩) (by assumption) ?_
            try simp only [Act.put, List.setIfInBounds_toArray, List.set_cons_zero, List.set_cons_succ]
            refine take_at (i := 17) (v := undef) 92 rfl rfl (by kernel_rfl) (by kernel_rfl) (by kernel_rfl) (fun _ _ _ h => h) (Or.inr ⟨by rfl, rfl⟩) (by assumption) ?_
            try simp only [Act.put, List.setIfInBounds_toArray, List.set_cons_zero, List.set_cons_succ]
            refine take_at (i := 18) (v := ?_) 93 rfl rfl (by kernel_rfl) (by kernel_rfl) (by kernel_rfl) (fun _ _ _ h => h) (Or.inl ⟨by rfl, ?_⟩) (by assumption) ?_
            rotate_left
            · intro w hSw; go_simp <;> with_reducible rfl
            try simp only [Act.put, List.setIfInBounds_toArray, List.set_cons_zero, List.set_cons_succ]
            refine wpAnyH_done (by kernel_rfl) ?_ _
            clear hHeld HKM
            go_wp2_with fail
            go_roundw
            case rel => exact ⟨i + 1, ah, by go_num, hlt, rfl, rfl, HAH.out, HB7.out.drew, HB8.out.drew⟩
            case measure => (simp [intOf] <;> omega)
          have hb1 : (y.gate == x.gate) = true := by simp [h1]
          by_cases h2 : y.number = x.number - 1
          rotate_left
          · have hb2 : (y.number == x.number - 1) = false := by simp [h2]
            clear h1 h2
            go_upto_region 14 with fail
            refine wp_region_held_drew (S := fun w' => w'.cell? ⟨b1, i * 6, none⟩ = some (.int .i64 y.gate) ∧ w'.cell? ⟨b1, i * 6 + 1, none⟩ = some (.int .i64 y.number) ∧ w'.cell? ⟨gx, 0, none⟩ = some (.int .i64 x.gate) ∧ w'.cell? ⟨gx, 1, none⟩ = some (.int .i64 x.number)) (by kernel_rfl) (HKM.out wc (Below.refl _ _)) (fun hHeld => ?_)
            refine take_at (i := 0) (v := ?_) 75 rfl rfl (by kernel_rfl) (by kernel_rfl) (by kernel_rfl) (fun _ _ _ h => h) (Or.inl ⟨by rfl, ?_⟩) (by assumption) ?_
            rotate_left
            · intro w hSw; go_simp <;> with_reducible rfl
            try simp only [Act.put, List.setIfInBounds_toArray, List.set_cons_zero, List.set_cons_succ]
            refine take_at (i := 1) (v := ?_) 76 rfl rfl (by kernel_rfl) (by kernel_rfl) (by kernel_rfl) (fun _ _ _ h => h) (Or.inl ⟨by rfl, ?_⟩) (by assumption) ?_
            rotate_left
            · intro w hSw; go_simp <;> with_reducible rfl
            try simp only [Act.put, List.setIfInBounds_toArray, List.set_cons_zero, List.set_cons_succ]
            refine take_at (i := 2) (v := ?_) 77 rfl rfl (by kernel_rfl) (by kernel_rfl) (by kernel_rfl) (fun _ _ _ h => h) (Or.inl ⟨by rfl, ?_⟩) (by assumption) ?_
            rotate_left
            · intro w hSw; go_simp <;> with_reducible rfl
            try simp only [Act.put, List.setIfInBounds_toArray, List.set_cons_zero, List.set_cons_succ]
            refine take_at (i := 3) (v := ?_) 78 rfl rfl (by kernel_rfl) (by kernel_rfl) (by kernel_rfl) (fun _ _ _ h => h) (Or.inl ⟨by rfl, ?_⟩) (by assumption) ?_
            rotate_left
            · intro w hSw; go_simp <;> with_reducible rfl
            try simp only [Act.put, List.setIfInBounds_toArray, List.set_cons_zero, List.set_cons_succ]
            refine take_at (i := 4) (v := ?_) 79 rfl rfl (by kernel_rfl) (by kernel_rfl) (by kernel_rfl) (fun _ _ _ h => h) (Or.inl ⟨by rfl, ?_⟩) (by assumption) ?_
            rotate_left
            · intro w hSw; go_simp <;> with_reducible rfl
            try simp only [Act.put, List.setIfInBounds_toArray, List.set_cons_zero, List.set_cons_succ]
            refine take_at (i := 5) (v := ?_) 80 rfl rfl (by kernel_rfl) (by kernel_rfl) (by kernel_rfl) (fun _ _ _ h => h) (Or.inl ⟨by rfl, ?_⟩) (by assumption) ?_
            rotate_left
            · intro w hSw; go_simp <;> with_reducible rfl
            try simp only [Act.put, List.setIfInBounds_toArray, List.set_cons_zero, List.set_cons_succ]
            refine take_at (i := 6) (v := ?_) 81 rfl rfl (by kernel_rfl) (by kernel_rfl) (by kernel_rfl) (fun _ _ _ h => h) (Or.inl ⟨by rfl, ?_⟩) (by assumption) ?_
            rotate_left
            · intro w hSw; go_simp <;> with_reducible rfl
            try simp only [Act.put, List.setIfInBounds_toArray, List.set_cons_zero, List.set_cons_succ]
            refine take_at (i := 7) (v := ?_) 82 rfl rfl (by kernel_rfl) (by kernel_rfl) (by kernel_rfl) (fun _ _ _ h => h) (Or.inl ⟨by rfl, ?_⟩) (by assumption) ?_
            rotate_left
            · intro w hSw; go_simp <;> with_reducible rfl
            try simp only [Act.put, List.setIfInBounds_toArray, List.set_cons_zero, List.set_cons_succ]
            refine take_at (i := 8) (v := ?_) 83 rfl rfl (by kernel_rfl) (by kernel_rfl) (by kernel_rfl) (fun _ _ _ h => h) (Or.inl ⟨by rfl, ?_⟩) (by assumption) ?_
            rotate_left
            · intro w hSw; go_simp <;> with_reducible rfl
            try simp only [Act.put, List.setIfInBounds_toArray, List.set_cons_zero, List.set_cons_succ]
            refine take_at (i := 9) (v := ?_) 84 rfl rfl (by kernel_rfl) (by kernel_rfl) (by kernel_rfl) (fun _ _ _ h => h) (Or.inl ⟨by rfl, ?_⟩) (by assumption) ?_
            rotate_left
            · intro w hSw; go_simp <;> with_reducible rfl
            try simp only [Act.put, List.setIfInBounds_toArray, List.set_cons_zero, List.set_cons_succ]
            refine take_at (i := 10) (v := ?_) 85 rfl rfl (by kernel_rfl) (by kernel_rfl) (by kernel_rfl) (fun _ _ _ h => h) (Or.inl ⟨by rfl, ?_⟩) (by assumption) ?_
            rotate_left
            · intro w hSw; go_simp <;> with_reducible rfl
            try simp only [Act.put, List.setIfInBounds_toArray, List.set_cons_zero, List.set_cons_succ]
            refine take_at (i := 11) (v := ?_) 86 rfl rfl (by kernel_rfl) (by kernel_rfl) (by kernel_rfl) (fun _ _ _ h => h) (Or.inl ⟨by rfl, ?_⟩) (by assumption) ?_
            rotate_left
            · intro w hSw; go_simp <;> with_reducible rfl
            try simp only [Act.put, List.setIfInBounds_toArray, List.set_cons_zero, List.set_cons_succ]
            refine take_at (i := 12) (v := ?_) 87 rfl rfl (by kernel_rfl) (by kernel_rfl) (by kernel_rfl) (fun _ _ _ h => h) (Or.inl ⟨by rfl, ?_⟩) (by assumption) ?_
            rotate_left
            · intro w hSw; go_simp <;> with_reducible rfl
            try simp only [Act.put, List.setIfInBounds_toArray, List.set_cons_zero, List.set_cons_succ]
            refine take_at (i := 13) (v := ?_) 88 rfl rfl (by kernel_rfl) (by kernel_rfl) (by kernel_rfl) (fun _ _ _ h => h) (Or.inl ⟨by rfl, ?_⟩) (by assumption) ?_
            rotate_left
            · intro w hSw; go_simp <;> with_reducible rfl
            try simp only [Act.put, List.setIfInBounds_toArray, List.set_cons_zero, List.set_cons_succ]
            refine take_at (i := 14) (v := ?_) 89 rfl rfl (by kernel_rfl) (by kernel_rfl) (by kernel_rfl) (fun _ _ _ h => h) (Or.inl ⟨by rfl, ?_⟩) (by assumption) ?_
            rotate_left
            · intro w hSw; go_simp <;> with_reducible rfl
            try simp only [Act.put, List.setIfInBounds_toArray, List.set_cons_zero, List.set_cons_succ]
            refine take_at (i := 15) (v := ?_) 90 rfl rfl (by kernel_rfl) (by kernel_rfl) (by kernel_rfl) (fun _ _ _ h => h) (Or.inl ⟨by rfl, ?_⟩) (by assumption) ?_
            rotate_left
            · intro w hSw; go_simp <;> with_reducible rfl
            try simp only [Act.put, List.setIfInBounds_toArray, List.set_cons_zero, List.set_cons_succ]
            refine take_at (i := 16) (v := .int .i64 (x.number - 1)) 91 rfl rfl (by kernel_rfl) (by kernel_rfl) (by kernel_rfl) (fun _ _ _ h => h) (Or.inl ⟨by rfl, ?_⟩) (by assumption) ?_
            · intro w' hSw
              go_simp
              exact i64_in _ (by omega)
            try simp only [Act.put, List.setIfInBounds_toArray, List.set_cons_zero, List.set_cons_succ]
            refine take_at (i := 17) (v := ?_) 92 rfl rfl (by kernel_rfl) (by kernel_rfl) (by kernel_rfl) (fun _ _ _ h => h) (Or.inl ⟨by rfl, ?_⟩) (by assumption) ?_
            rotate_left
            · intro w hSw; go_simp <;> with_reducible rfl
            try simp only [Act.put, List.setIfInBounds_toArray, List.set_cons_zero, List.set_cons_succ]
            refine take_at (i := 18) (v := ?_) 93 rfl rfl (by kernel_rfl) (by kernel_rfl) (by kernel_rfl) (fun _ _ _ h => h) (Or.inl ⟨by rfl, ?_⟩) (by assumption) ?_
            rotate_left
            · intro w hSw; go_simp <;> with_reducible rfl
            try simp only [Act.put, List.setIfInBounds_toArray, List.set_cons_zero, List.set_cons_succ]
            refine wpAnyH_done (by kernel_rfl) ?_ _
            clear hHeld HKM
            go_wp2_with fail
            go_roundw
            case rel => exact ⟨i + 1, ah, by go_num, hlt, rfl, rfl, HAH.out, HB7.out.drew, HB8.out.drew⟩
            case measure => (simp [intOf] <;> omega)
          have hb2 : (y.number == x.number - 1) = true := by simp [h2]
          have HJ := Lib.hid (HGJ.out h1 h2)
          clear h1 h2
          go_upto_region 14 with fail
          refine wp_region_held_drew (S := fun w' => w'.cell? ⟨b1, i * 6, none⟩ = some (.int .i64 y.gate) ∧ w'.cell? ⟨b1, i * 6 + 1, none⟩ = some (.int .i64 y.number) ∧ w'.cell? ⟨gx, 0, none⟩ = some (.int .i64 x.gate) ∧ w'.cell? ⟨gx, 1, none⟩ = some (.int .i64 x.number)) (by kernel_rfl) (HKM.out wc (Below.refl _ _)) (fun hHeld => ?_)
          refine take_at (i := 0) (v := ?_) 75 rfl rfl (by kernel_rfl) (by kernel_rfl) (by kernel_rfl) (fun _ _ _ h => h) (Or.inl ⟨by rfl, ?_⟩) (by assumption) ?_
          rotate_left
          · intro w hSw; go_simp <;> with_reducible rfl
          try simp only [Act.put, List.setIfInBounds_toArray, List.set_cons_zero, List.set_cons_succ]
          refine take_at (i := 1) (v := ?_) 76 rfl rfl (by kernel_rfl) (by kernel_rfl) (by kernel_rfl) (fun _ _ _ h => h) (Or.inl ⟨by rfl, ?_⟩) (by assumption) ?_
          rotate_left
          · intro w hSw; go_simp <;> with_reducible rfl
          try simp only [Act.put, List.setIfInBounds_toArray, List.set_cons_zero, List.set_cons_succ]
          refine take_at (i := 2) (v := ?_) 77 rfl rfl (by kernel_rfl) (by kernel_rfl) (by kernel_rfl) (fun _ _ _ h => h) (Or.inl ⟨by rfl, ?_⟩) (by assumption) ?_
          rotate_left
          · intro w hSw; go_simp <;> with_reducible rfl
          try simp only [Act.put, List.setIfInBounds_toArray, List.set_cons_zero, List.set_cons_succ]
          refine take_at (i := 3) (v := ?_) 78 rfl rfl (by kernel_rfl) (by kernel_rfl) (by kernel_rfl) (fun _ _ _ h => h) (Or.inl ⟨by rfl, ?_⟩) (by assumption) ?_
          rotate_left
          · intro w hSw; go_simp <;> with_reducible rfl
          try simp only [Act.put, List.setIfInBounds_toArray, List.set_cons_zero, List.set_cons_succ]
          refine take_at (i := 4) (v := ?_) 79 rfl rfl (by kernel_rfl) (by kernel_rfl) (by kernel_rfl) (fun _ _ _ h => h) (Or.inl ⟨by rfl, ?_⟩) (by assumption) ?_
          rotate_left
          · intro w hSw; go_simp <;> with_reducible rfl
          try simp only [Act.put, List.setIfInBounds_toArray, List.set_cons_zero, List.set_cons_succ]
          refine take_at (i := 5) (v := ?_) 80 rfl rfl (by kernel_rfl) (by kernel_rfl) (by kernel_rfl) (fun _ _ _ h => h) (Or.inl ⟨by rfl, ?_⟩) (by assumption) ?_
          rotate_left
          · intro w hSw; go_simp <;> with_reducible rfl
          try simp only [Act.put, List.setIfInBounds_toArray, List.set_cons_zero, List.set_cons_succ]
          refine take_at (i := 6) (v := ?_) 81 rfl rfl (by kernel_rfl) (by kernel_rfl) (by kernel_rfl) (fun _ _ _ h => h) (Or.inl ⟨by rfl, ?_⟩) (by assumption) ?_
          rotate_left
          · intro w hSw; go_simp <;> with_reducible rfl
          try simp only [Act.put, List.setIfInBounds_toArray, List.set_cons_zero, List.set_cons_succ]
          refine take_at (i := 7) (v := ?_) 82 rfl rfl (by kernel_rfl) (by kernel_rfl) (by kernel_rfl) (fun _ _ _ h => h) (Or.inl ⟨by rfl, ?_⟩) (by assumption) ?_
          rotate_left
          · intro w hSw; go_simp <;> with_reducible rfl
          try simp only [Act.put, List.setIfInBounds_toArray, List.set_cons_zero, List.set_cons_succ]
          refine take_at (i := 8) (v := ?_) 83 rfl rfl (by kernel_rfl) (by kernel_rfl) (by kernel_rfl) (fun _ _ _ h => h) (Or.inl ⟨by rfl, ?_⟩) (by assumption) ?_
          rotate_left
          · intro w hSw; go_simp <;> with_reducible rfl
          try simp only [Act.put, List.setIfInBounds_toArray, List.set_cons_zero, List.set_cons_succ]
          refine take_at (i := 9) (v := ?_) 84 rfl rfl (by kernel_rfl) (by kernel_rfl) (by kernel_rfl) (fun _ _ _ h => h) (Or.inl ⟨by rfl, ?_⟩) (by assumption) ?_
          rotate_left
          · intro w hSw; go_simp <;> with_reducible rfl
          try simp only [Act.put, List.setIfInBounds_toArray, List.set_cons_zero, List.set_cons_succ]
          refine take_at (i := 10) (v := ?_) 85 rfl rfl (by kernel_rfl) (by kernel_rfl) (by kernel_rfl) (fun _ _ _ h => h) (Or.inl ⟨by rfl, ?_⟩) (by assumption) ?_
          rotate_left
          · intro w hSw; go_simp <;> with_reducible rfl
          try simp only [Act.put, List.setIfInBounds_toArray, List.set_cons_zero, List.set_cons_succ]
          refine take_at (i := 11) (v := ?_) 86 rfl rfl (by kernel_rfl) (by kernel_rfl) (by kernel_rfl) (fun _ _ _ h => h) (Or.inl ⟨by rfl, ?_⟩) (by assumption) ?_
          rotate_left
          · intro w hSw; go_simp <;> with_reducible rfl
          try simp only [Act.put, List.setIfInBounds_toArray, List.set_cons_zero, List.set_cons_succ]
          refine take_at (i := 12) (v := ?_) 87 rfl rfl (by kernel_rfl) (by kernel_rfl) (by kernel_rfl) (fun _ _ _ h => h) (Or.inl ⟨by rfl, ?_⟩) (by assumption) ?_
          rotate_left
          · intro w hSw; go_simp <;> with_reducible rfl
          try simp only [Act.put, List.setIfInBounds_toArray, List.set_cons_zero, List.set_cons_succ]
          refine take_at (i := 13) (v := ?_) 88 rfl rfl (by kernel_rfl) (by kernel_rfl) (by kernel_rfl) (fun _ _ _ h => h) (Or.inl ⟨by rfl, ?_⟩) (by assumption) ?_
          rotate_left
          · intro w hSw; go_simp <;> with_reducible rfl
          try simp only [Act.put, List.setIfInBounds_toArray, List.set_cons_zero, List.set_cons_succ]
          refine take_at (i := 14) (v := ?_) 89 rfl rfl (by kernel_rfl) (by kernel_rfl) (by kernel_rfl) (fun _ _ _ h => h) (Or.inl ⟨by rfl, ?_⟩) (by assumption) ?_
          rotate_left
          · intro w hSw; go_simp <;> with_reducible rfl
          try simp only [Act.put, List.setIfInBounds_toArray, List.set_cons_zero, List.set_cons_succ]
          refine take_at (i := 15) (v := ?_) 90 rfl rfl (by kernel_rfl) (by kernel_rfl) (by kernel_rfl) (fun _ _ _ h => h) (Or.inl ⟨by rfl, ?_⟩) (by assumption) ?_
          rotate_left
          · intro w hSw; go_simp <;> with_reducible rfl
          try simp only [Act.put, List.setIfInBounds_toArray, List.set_cons_zero, List.set_cons_succ]
          refine take_at (i := 16) (v := .int .i64 (x.number - 1)) 91 rfl rfl (by kernel_rfl) (by kernel_rfl) (by kernel_rfl) (fun _ _ _ h => h) (Or.inl ⟨by rfl, ?_⟩) (by assumption) ?_
          · intro w' hSw
            go_simp
            exact i64_in _ (by omega)
          try simp only [Act.put, List.setIfInBounds_toArray, List.set_cons_zero, List.set_cons_succ]
          refine take_at (i := 17) (v := ?_) 92 rfl rfl (by kernel_rfl) (by kernel_rfl) (by kernel_rfl) (fun _ _ _ h => h) (Or.inl ⟨by rfl, ?_⟩) (by assumption) ?_
          rotate_left
          · intro w hSw; go_simp <;> with_reducible rfl
          try simp only [Act.put, List.setIfInBounds_toArray, List.set_cons_zero, List.set_cons_succ]
          refine take_at (i := 18) (v := ?_) 93 rfl rfl (by kernel_rfl) (by kernel_rfl) (by kernel_rfl) (fun _ _ _ h => h) (Or.inl ⟨by rfl, ?_⟩) (by assumption) ?_
          rotate_left
          · intro w hSw; go_simp <;> with_reducible rfl
          try simp only [Act.put, List.setIfInBounds_toArray, List.set_cons_zero, List.set_cons_succ]
          refine wpAnyH_done (by kernel_rfl) ?_ _
          clear hHeld HKM
          go_wp2_with fail
          go_roundw
          case rel => exact ⟨i + 1, i, by go_num, hlt, rfl, rfl, Or.inr HJ.out, HB7.out.drew, HB8.out.drew⟩
          case measure => (simp [intOf] <;> omega)
        cases lt1
        rotate_left
        · have HVL : Hid ((L.take (i + 1)).any (laterB x) = true) := by show _ = _; rw [HAN.out]; rfl
          clear HAN
          refine wp_region_held_drew (S := fun w' => w'.cell? ⟨b1, i * 6, none⟩ = some (.int .i64 y.gate) ∧ w'.cell? ⟨b1, i * 6 + 1, none⟩ = some (.int .i64 y.number) ∧ w'.cell? ⟨gx, 0, none⟩ = some (.int .i64 x.gate) ∧ w'.cell? ⟨gx, 1, none⟩ = some (.int .i64 x.number)) (by kernel_rfl) (HKK.out wr (Below.refl _ _)) (fun hHeld => ?_)
          refine take_at (i := 0) (v := ?_) 54 rfl rfl (by kernel_rfl) (by kernel_rfl) (by kernel_rfl) (fun _ _ _ h => h) (Or.inl ⟨by rfl, ?_⟩) (by assumption) ?_
          rotate_left
          · intro w hSw; go_simp <;> with_reducible rfl
          try simp only [Act.put, List.setIfInBounds_toArray, List.set_cons_zero, List.set_cons_succ]
          refine take_at (i := 1) (v := ?_) 55 rfl rfl (by kernel_rfl) (by kernel_rfl) (by kernel_rfl) (fun _ _ _ h => h) (Or.inl ⟨by rfl, ?_⟩) (by assumption) ?_
          rotate_left
          · intro w hSw; go_simp <;> with_reducible rfl
          try simp only [Act.put, List.setIfInBounds_toArray, List.set_cons_zero, List.set_cons_succ]
          refine take_at (i := 2) (v := undef) 56 rfl rfl (by kernel_rfl) (by kernel_rfl) (by kernel_rfl) (fun _ _ _ h => h) (Or.inr ⟨by rfl, rfl⟩) (by assumption) ?_
          try simp only [Act.put, List.setIfInBounds_toArray, List.set_cons_zero, List.set_cons_succ]
          refine take_at (i := 3) (v := undef) 57 rfl rfl (by kernel_rfl) (by kernel_rfl) (by kernel_rfl) (fun _ _ _ h => h) (Or.inr ⟨by rfl, rfl⟩) (by assumption) ?_
          try simp only [Act.put, List.setIfInBounds_toArray, List.set_cons_zero, List.set_cons_succ]
          refine take_at (i := 4) (v := undef) 58 rfl rfl (by kernel_rfl) (by kernel_rfl) (by kernel_rfl) (fun _ _ _ h => h) (Or.inr ⟨by rfl, rfl⟩) (by assumption) ?_
          try simp only [Act.put, List.setIfInBounds_toArray, List.set_cons_zero, List.set_cons_succ]
          refine take_at (i := 5) (v := undef) 59 rfl rfl (by kernel_rfl) (by kernel_rfl) (by kernel_rfl) (fun _ _ _ h => h) (Or.inr ⟨by rfl, rfl⟩) (by assumption) ?_
          try simp only [Act.put, List.setIfInBounds_toArray, List.set_cons_zero, List.set_cons_succ]
          refine take_at (i := 6) (v := undef) 60 rfl rfl (by kernel_rfl) (by kernel_rfl) (by kernel_rfl) (fun _ _ _ h => h) (Or.inr ⟨by rfl, rfl⟩) (by assumption) ?_
          try simp only [Act.put, List.setIfInBounds_toArray, List.set_cons_zero, List.set_cons_succ]
          refine take_at (i := 7) (v := undef) 61 rfl rfl (by kernel_rfl) (by kernel_rfl) (by kernel_rfl) (fun _ _ _ h => h) (Or.inr ⟨by rfl, rfl⟩) (by assumption) ?_
          try simp only [Act.put, List.setIfInBounds_toArray, List.set_cons_zero, List.set_cons_succ]
          refine take_at (i := 8) (v := undef) 62 rfl rfl (by kernel_rfl) (by kernel_rfl) (by kernel_rfl) (fun _ _ _ h => h) (Or.inr ⟨by rfl, rfl⟩) (by assumption) ?_
          try simp only [Act.put, List.setIfInBounds_toArray, List.set_cons_zero, List.set_cons_succ]
          refine take_at (i := 9) (v := undef) 63 rfl rfl (by kernel_rfl) (by kernel_rfl) (by kernel_rfl) (fun _ _ _ h => h) (Or.inr ⟨by rfl, rfl⟩) (by assumption) ?_
          try simp only [Act.put, List.setIfInBounds_toArray, List.set_cons_zero, List.set_cons_succ]
          refine take_at (i := 10) (v := undef) 64 rfl rfl (by kernel_rfl) (by kernel_rfl) (by kernel_rfl) (fun _ _ _ h => h) (Or.inr ⟨by rfl, rfl⟩) (by assumption) ?_
          try simp only [Act.put, List.setIfInBounds_toArray, List.set_cons_zero, List.set_cons_succ]
          refine take_at (i := 11) (v := undef) 65 rfl rfl (by kernel_rfl) (by kernel_rfl) (by kernel_rfl) (fun _ _ _ h => h) (Or.inr ⟨by rfl, rfl⟩) (by assumption) ?_
          try simp only [Act.put, List.setIfInBounds_toArray, List.set_cons_zero, List.set_cons_succ]
          refine take_at (i := 12) (v := undef) 66 rfl rfl (by kernel_rfl) (by kernel_rfl) (by kernel_rfl) (fun _ _ _ h => h) (Or.inr ⟨by rfl, rfl⟩) (by assumption) ?_
          try simp only [Act.put, List.setIfInBounds_toArray, List.set_cons_zero, List.set_cons_succ]
          refine take_at (i := 13) (v := undef) 67 rfl rfl (by kernel_rfl) (by kernel_rfl) (by kernel_rfl) (fun _ _ _ h => h) (Or.inr ⟨by rfl, rfl⟩) (by assumption) ?_
          try simp only [Act.put, List.setIfInBounds_toArray, List.set_cons_zero, List.set_cons_succ]
          refine take_at (i := 14) (v := undef) 68 rfl rfl (by kernel_rfl) (by kernel_rfl) (by kernel_rfl) (fun _ _ _ h => h) (Or.inr ⟨by rfl, rfl⟩) (by assumption) ?_
          try simp only [Act.put, List.setIfInBounds_toArray, List.set_cons_zero, List.set_cons_succ]
          refine take_at (i := 15) (v := undef) 69 rfl rfl (by kernel_rfl) (by kernel_rfl) (by kernel_rfl) (fun _ _ _ h => h) (Or.inr ⟨by rfl, rfl⟩) (by assumption) ?_
          try simp only [Act.put, List.setIfInBounds_toArray, List.set_cons_zero, List.set_cons_succ]
          refine take_at (i := 16) (v := undef) 70 rfl rfl (by kernel_rfl) (by kernel_rfl) (by kernel_rfl) (fun _ _ _ h => h) (Or.inr ⟨by rfl, rfl⟩) (by assumption) ?_
          try simp only [Act.put, List.setIfInBounds_toArray, List.set_cons_zero, List.set_cons_succ]
          refine take_at (i := 17) (v := undef) 71 rfl rfl (by kernel_rfl) (by kernel_rfl) (by kernel_rfl) (fun _ _ _ h => h) (Or.inr ⟨by rfl, rfl⟩) (by assumption) ?_
          try simp only [Act.put, List.setIfInBounds_toArray, List.set_cons_zero, List.set_cons_succ]
          refine take_at (i := 18) (v := undef) 72 rfl rfl (by kernel_rfl) (by kernel_rfl) (by kernel_rfl) (fun _ _ _ h => h) (Or.inr ⟨by rfl, rfl⟩) (by assumption) ?_
          try simp only [Act.put, List.setIfInBounds_toArray, List.set_cons_zero, List.set_cons_succ]
          refine take_at (i := 19) (v := undef) 73 rfl rfl (by kernel_rfl) (by kernel_rfl) (by kernel_rfl) (fun _ _ _ h => h) (Or.inr ⟨by rfl, rfl⟩) (by assumption) ?_
          try simp only [Act.put, List.setIfInBounds_toArray, List.set_cons_zero, List.set_cons_succ]
          refine take_at (i := 20) (v := ?_) 74 rfl rfl (by kernel_rfl) (by kernel_rfl) (by kernel_rfl) (fun _ _ _ h => h) (Or.inl ⟨by rfl, ?_⟩) (by assumption) ?_
          rotate_left
          · intro w hSw; go_simp <;> with_reducible rfl
          try simp only [Act.put, List.setIfInBounds_toArray, List.set_cons_zero, List.set_cons_succ]
          refine take_at (i := 21) (v := ?_) 12 rfl rfl (by kernel_rfl) (by kernel_rfl) (by kernel_rfl) (fun _ _ _ h => h) (Or.inl ⟨by rfl, ?_⟩) (by assumption) ?_
          rotate_left
          · intro w hSw; go_simp <;> with_reducible rfl
          try simp only [Act.put, List.setIfInBounds_toArray, List.set_cons_zero, List.set_cons_succ]
          refine wpAnyH_done (by kernel_rfl) ?_ _
          go_wp2_with fail
          go_meet
          case rel => exact ⟨by rw [HVL.out], (Below.refl _ _).drew⟩
        by_cases h1 : y.gate = x.gate
        rotate_left
        · have hb1 : (y.gate == x.gate) = false := by simp [h1]
          have HVL : Hid ((L.take (i + 1)).any (laterB x) = false) := by show _ = _; rw [HAN.out]; simp [laterB, h1]
          clear h1
          clear HAN
          refine wp_region_held_drew (S := fun w' => w'.cell? ⟨b1, i * 6, none⟩ = some (.int .i64 y.gate) ∧ w'.cell? ⟨b1, i * 6 + 1, none⟩ = some (.int .i64 y.number) ∧ w'.cell? ⟨gx, 0, none⟩ = some (.int .i64 x.gate) ∧ w'.cell? ⟨gx, 1, none⟩ = some (.int .i64 x.number)) (by kernel_rfl) (HKK.out wr (Below.refl _ _)) (fun hHeld => ?_)
          refine take_at (i := 0) (v := ?_) 54 rfl rfl (by kernel_rfl) (by kernel_rfl) (by kernel_rfl) (fun _ _ _ h => h) (Or.inl ⟨by rfl, ?_⟩) (by assumption) ?_
          rotate_left
          · intro w hSw; go_simp <;> with_reducible rfl
          try simp only [Act.put, List.setIfInBounds_toArray, List.set_cons_zero, List.set_cons_succ]
          refine take_at (i := 1) (v := ?_) 55 rfl rfl (by kernel_rfl) (by kernel_rfl) (by kernel_rfl) (fun _ _ _ h => h) (Or.inl ⟨by rfl, ?_⟩) (by assumption) ?_
          rotate_left
          · intro w hSw; go_simp <;> with_reducible rfl
          try simp only [Act.put, List.setIfInBounds_toArray, List.set_cons_zero, List.set_cons_succ]
          refine take_at (i := 2) (v := ?_) 56 rfl rfl (by kernel_rfl) (by kernel_rfl) (by kernel_rfl) (fun _ _ _ h => h) (Or.inl ⟨by rfl, ?_⟩) (by assumption) ?_
          rotate_left
          · intro w hSw; go_simp <;> with_reducible rfl
          try simp only [Act.put, List.setIfInBounds_toArray, List.set_cons_zero, List.set_cons_succ]
          refine take_at (i := 3) (v := ?_) 57 rfl rfl (by kernel_rfl) (by kernel_rfl) (by kernel_rfl) (fun _ _ _ h => h) (Or.inl ⟨by rfl, ?_⟩) (by assumption) ?_
          rotate_left
          · intro w hSw; go_simp <;> with_reducible rfl
          try simp only [Act.put, List.setIfInBounds_toArray, List.set_cons_zero, List.set_cons_succ]
          refine take_at (i := 4) (v := ?_) 58 rfl rfl (by kernel_rfl) (by kernel_rfl) (by kernel_rfl) (fun _ _ _ h => h) (Or.inl ⟨by rfl, ?_⟩) (by assumption) ?_
          rotate_left
          · intro w hSw; go_simp <;> with_reducible rfl
          try simp only [Act.put, List.setIfInBounds_toArray, List.set_cons_zero, List.set_cons_succ]
          refine take_at (i := 5) (v := ?_) 59 rfl rfl (by kernel_rfl) (by kernel_rfl) (by kernel_rfl) (fun _ _ _ h => h) (Or.inl ⟨by rfl, ?_⟩) (by assumption) ?_
          rotate_left
          · intro w hSw; go_simp <;> with_reducible rfl
          try simp only [Act.put, List.setIfInBounds_toArray, List.set_cons_zero, List.set_cons_succ]
          refine take_at (i := 6) (v := ?_) 60 rfl rfl (by kernel_rfl) (by kernel_rfl) (by kernel_rfl) (fun _ _ _ h => h) (Or.inl ⟨by rfl, ?_⟩) (by assumption) ?_
          rotate_left
          · intro w hSw; go_simp <;> with_reducible rfl
          try simp only [Act.put, List.setIfInBounds_toArray, List.set_cons_zero, List.set_cons_succ]
          refine take_at (i := 7) (v := ?_) 61 rfl rfl (by kernel_rfl) (by kernel_rfl) (by kernel_rfl) (fun _ _ _ h => h) (Or.inl ⟨by rfl, ?_⟩) (by assumption) ?_
          rotate_left
          · intro w hSw; go_simp <;> with_reducible rfl
          try simp only [Act.put, List.setIfInBounds_toArray, List.set_cons_zero, List.set_cons_succ]
          refine take_at (i := 8) (v := ?_) 62 rfl rfl (by kernel_rfl) (by kernel_rfl) (by kernel_rfl) (fun _ _ _ h => h) (Or.inl ⟨by rfl, ?_⟩) (by assumption) ?_
          rotate_left
          · intro w hSw; go_simp <;> with_reducible rfl
          try simp only [Act.put, List.setIfInBounds_toArray, List.set_cons_zero, List.set_cons_succ]
          refine take_at (i := 9) (v := ?_) 63 rfl rfl (by kernel_rfl) (by kernel_rfl) (by kernel_rfl) (fun _ _ _ h => h) (Or.inl ⟨by rfl, ?_⟩) (by assumption) ?_
          rotate_left
          · intro w hSw; go_simp <;> with_reducible rfl
          try simp only [Act.put, List.setIfInBounds_toArray, List.set_cons_zero, List.set_cons_succ]
          refine take_at (i := 10) (v := ?_) 64 rfl rfl (by kernel_rfl) (by kernel_rfl) (by kernel_rfl) (fun _ _ _ h => h) (Or.inl ⟨by rfl, ?_⟩) (by assumption) ?_
          rotate_left
          · intro w hSw; go_simp <;> with_reducible rfl
          try simp only [Act.put, List.setIfInBounds_toArray, List.set_cons_zero, List.set_cons_succ]
          refine take_at (i := 11) (v := undef) 65 rfl rfl (by kernel_rfl) (by kernel_rfl) (by kernel_rfl) (fun _ _ _ h => h) (Or.inr ⟨by rfl, rfl⟩) (by assumption) ?_
          try simp only [Act.put, List.setIfInBounds_toArray, List.set_cons_zero, List.set_cons_succ]
          refine take_at (i := 12) (v := undef) 66 rfl rfl (by kernel_rfl) (by kernel_rfl) (by kernel_rfl) (fun _ _ _ h => h) (Or.inr ⟨by rfl, rfl⟩) (by assumption) ?_
          try simp only [Act.put, List.setIfInBounds_toArray, List.set_cons_zero, List.set_cons_succ]
          refine take_at (i := 13) (v := undef) 67 rfl rfl (by kernel_rfl) (by kernel_rfl) (by kernel_rfl) (fun _ _ _ h => h) (Or.inr ⟨by rfl, rfl⟩) (by assumption) ?_
          try simp only [Act.put, List.setIfInBounds_toArray, List.set_cons_zero, List.set_cons_succ]
          refine take_at (i := 14) (v := undef) 68 rfl rfl (by kernel_rfl) (by kernel_rfl) (by kernel_rfl) (fun _ _ _ h => h) (Or.inr ⟨by rfl, rfl⟩) (by assumption) ?_
          try simp only [Act.put, List.setIfInBounds_toArray, List.set_cons_zero, List.set_cons_succ]
          refine take_at (i := 15) (v := undef) 69 rfl rfl (by kernel_rfl) (by kernel_rfl) (by kernel_rfl) (fun _ _ _ h => h) (Or.inr ⟨by rfl, rfl⟩) (by assumption) ?_
          try simp only [Act.put, List.setIfInBounds_toArray, List.set_cons_zero, List.set_cons_succ]
          refine take_at (i := 16) (v := undef) 70 rfl rfl (by kernel_rfl) (by kernel_rfl) (by kernel_rfl) (fun _ _ _ h => h) (Or.inr ⟨by rfl, rfl⟩) (by assumption) ?_
          try simp only [Act.put, List.setIfInBounds_toArray, List.set_cons_zero, List.set_cons_succ]
          refine take_at (i := 17) (v := undef) 71 rfl rfl (by kernel_rfl) (by kernel_rfl) (by kernel_rfl) (fun _ _ _ h => h) (Or.inr ⟨by rfl, rfl⟩) (by assumption) ?_
          try simp only [Act.put, List.setIfInBounds_toArray, List.set_cons_zero, List.set_cons_succ]
          refine take_at (i := 18) (v := undef) 72 rfl rfl (by kernel_rfl) (by kernel_rfl) (by kernel_rfl) (fun _ _ _ h => h) (Or.inr ⟨by rfl, rfl⟩) (by assumption) ?_
          try simp only [Act.put, List.setIfInBounds_toArray, List.set_cons_zero, List.set_cons_succ]
          refine take_at (i := 19) (v := ?_) 73 rfl rfl (by kernel_rfl) (by kernel_rfl) (by kernel_rfl) (fun _ _ _ h => h) (Or.inl ⟨by rfl, ?_⟩) (by assumption) ?_
          rotate_left
          · intro w hSw; go_simp <;> with_reducible rfl
          try simp only [Act.put, List.setIfInBounds_toArray, List.set_cons_zero, List.set_cons_succ]
          refine take_at (i := 20) (v := ?_) 74 rfl rfl (by kernel_rfl) (by kernel_rfl) (by kernel_rfl) (fun _ _ _ h => h) (Or.inl ⟨by rfl, ?_⟩) (by assumption) ?_
          rotate_left
          · intro w hSw; go_simp <;> with_reducible rfl
          try simp only [Act.put, List.setIfInBounds_toArray, List.set_cons_zero, List.set_cons_succ]
          refine take_at (i := 21) (v := ?_) 12 rfl rfl (by kernel_rfl) (by kernel_rfl) (by kernel_rfl) (fun _ _ _ h => h) (Or.inl ⟨by rfl, ?_⟩) (by assumption) ?_
          rotate_left
          · intro w hSw; go_simp <;> with_reducible rfl
          try simp only [Act.put, List.setIfInBounds_toArray, List.set_cons_zero, List.set_cons_succ]
          refine wpAnyH_done (by kernel_rfl) ?_ _
          go_wp2_with fail
          go_meet
          case rel => exact ⟨by rw [HVL.out], (Below.refl _ _).drew⟩
        have hb1 : (y.gate == x.gate) = true := by simp [h1]
        have HVL : Hid ((L.take (i + 1)).any (laterB x) = decide (x.number < y.number)) := by show _ = _; rw [HAN.out]; simp [laterB, h1]
        clear h1
        clear HAN
        refine wp_region_held_drew (S := fun w' => w'.cell? ⟨b1, i * 6, none⟩ = some (.int .i64 y.gate) ∧ w'.cell? ⟨b1, i * 6 + 1, none⟩ = some (.int .i64 y.number) ∧ w'.cell? ⟨gx, 0, none⟩ = some (.int .i64 x.gate) ∧ w'.cell? ⟨gx, 1, none⟩ = some (.int .i64 x.number)) (by kernel_rfl) (HKK.out wr (Below.refl _ _)) (fun hHeld => ?_)
        refine take_at (i := 0) (v := ?_) 54 rfl rfl (by kernel_rfl) (by kernel_rfl) (by kernel_rfl) (fun _ _ _ h => h) (Or.inl ⟨by rfl, ?_⟩) (by assumption) ?_
        rotate_left
        · intro w hSw; go_simp <;> with_reducible rfl
        try simp only [Act.put, List.setIfInBounds_toArray, List.set_cons_zero, List.set_cons_succ]
        refine take_at (i := 1) (v := ?_) 55 rfl rfl (by kernel_rfl) (by kernel_rfl) (by kernel_rfl) (fun _ _ _ h => h) (Or.inl ⟨by rfl, ?_⟩) (by assumption) ?_
        rotate_left
        · intro w hSw; go_simp <;> with_reducible rfl
        try simp only [Act.put, List.setIfInBounds_toArray, List.set_cons_zero, List.set_cons_succ]
        refine take_at (i := 2) (v := ?_) 56 rfl rfl (by kernel_rfl) (by kernel_rfl) (by kernel_rfl) (fun _ _ _ h => h) (Or.inl ⟨by rfl, ?_⟩) (by assumption) ?_
        rotate_left
        · intro w hSw; go_simp <;> with_reducible rfl
        try simp only [Act.put, List.setIfInBounds_toArray, List.set_cons_zero, List.set_cons_succ]
        refine take_at (i := 3) (v := ?_) 57 rfl rfl (by kernel_rfl) (by kernel_rfl) (by kernel_rfl) (fun _ _ _ h => h) (Or.inl ⟨by rfl, ?_⟩) (by assumption) ?_
        rotate_left
        · intro w hSw; go_simp <;> with_reducible rfl
        try simp only [Act.put, List.setIfInBounds_toArray, List.set_cons_zero, List.set_cons_succ]
        refine take_at (i := 4) (v := ?_) 58 rfl rfl (by kernel_rfl) (by kernel_rfl) (by kernel_rfl) (fun _ _ _ h => h) (Or.inl ⟨by rfl, ?_⟩) (by assumption) ?_
        rotate_left
        · intro w hSw; go_simp <;> with_reducible rfl
        try simp only [Act.put, List.setIfInBounds_toArray, List.set_cons_zero, List.set_cons_succ]
        refine take_at (i := 5) (v := ?_) 59 rfl rfl (by kernel_rfl) (by kernel_rfl) (by kernel_rfl) (fun _ _ _ h => h) (Or.inl ⟨by rfl, ?_⟩) (by assumption) ?_
        rotate_left
        · intro w hSw; go_simp <;> with_reducible rfl
        try simp only [Act.put, List.setIfInBounds_toArray, List.set_cons_zero, List.set_cons_succ]
        refine take_at (i := 6) (v := ?_) 60 rfl rfl (by kernel_rfl) (by kernel_rfl) (by kernel_rfl) (fun _ _ _ h => h) (Or.inl ⟨by rfl, ?_⟩) (by assumption) ?_
        rotate_left
        · intro w hSw; go_simp <;> with_reducible rfl
        try simp only [Act.put, List.setIfInBounds_toArray, List.set_cons_zero, List.set_cons_succ]
        refine take_at (i := 7) (v := ?_) 61 rfl rfl (by kernel_rfl) (by kernel_rfl) (by kernel_rfl) (fun _ _ _ h => h) (Or.inl ⟨by rfl, ?_⟩) (by assumption) ?_
        rotate_left
        · intro w hSw; go_simp <;> with_reducible rfl
        try simp only [Act.put, List.setIfInBounds_toArray, List.set_cons_zero, List.set_cons_succ]
        refine take_at (i := 8) (v := ?_) 62 rfl rfl (by kernel_rfl) (by kernel_rfl) (by kernel_rfl) (fun _ _ _ h => h) (Or.inl ⟨by rfl, ?_⟩) (by assumption) ?_
        rotate_left
        · intro w hSw; go_simp <;> with_reducible rfl
        try simp only [Act.put, List.setIfInBounds_toArray, List.set_cons_zero, List.set_cons_succ]
        refine take_at (i := 9) (v := ?_) 63 rfl rfl (by kernel_rfl) (by kernel_rfl) (by kernel_rfl) (fun _ _ _ h => h) (Or.inl ⟨by rfl, ?_⟩) (by assumption) ?_
        rotate_left
        · intro w hSw; go_simp <;> with_reducible rfl
        try simp only [Act.put, List.setIfInBounds_toArray, List.set_cons_zero, List.set_cons_succ]
        refine take_at (i := 10) (v := ?_) 64 rfl rfl (by kernel_rfl) (by kernel_rfl) (by kernel_rfl) (fun _ _ _ h => h) (Or.inl ⟨by rfl, ?_⟩) (by assumption) ?_
        rotate_left
        · intro w hSw; go_simp <;> with_reducible rfl
        try simp only [Act.put, List.setIfInBounds_toArray, List.set_cons_zero, List.set_cons_succ]
        refine take_at (i := 11) (v := ?_) 65 rfl rfl (by kernel_rfl) (by kernel_rfl) (by kernel_rfl) (fun _ _ _ h => h) (Or.inl ⟨by rfl, ?_⟩) (by assumption) ?_
        rotate_left
        · intro w hSw; go_simp <;> with_reducible rfl
        try simp only [Act.put, List.setIfInBounds_toArray, List.set_cons_zero, List.set_cons_succ]
        refine take_at (i := 12) (v := ?_) 66 rfl rfl (by kernel_rfl) (by kernel_rfl) (by kernel_rfl) (fun _ _ _ h => h) (Or.inl ⟨by rfl, ?_⟩) (by assumption) ?_
        rotate_left
        · intro w hSw; go_simp <;> with_reducible rfl
        try simp only [Act.put, List.setIfInBounds_toArray, List.set_cons_zero, List.set_cons_succ]
        refine take_at (i := 13) (v := ?_) 67 rfl rfl (by kernel_rfl) (by kernel_rfl) (by kernel_rfl) (fun _ _ _ h => h) (Or.inl ⟨by rfl, ?_⟩) (by assumption) ?_
        rotate_left
        · intro w hSw; go_simp <;> with_reducible rfl
        try simp only [Act.put, List.setIfInBounds_toArray, List.set_cons_zero, List.set_cons_succ]
        refine take_at (i := 14) (v := ?_) 68 rfl rfl (by kernel_rfl) (by kernel_rfl) (by kernel_rfl) (fun _ _ _ h => h) (Or.inl ⟨by rfl, ?_⟩) (by assumption) ?_
        rotate_left
        · intro w hSw; go_simp <;> with_reducible rfl
        try simp only [Act.put, List.setIfInBounds_toArray, List.set_cons_zero, List.set_cons_succ]
        refine take_at (i := 15) (v := ?_) 69 rfl rfl (by kernel_rfl) (by kernel_rfl) (by kernel_rfl) (fun _ _ _ h => h) (Or.inl ⟨by rfl, ?_⟩) (by assumption) ?_
        rotate_left
        · intro w hSw; go_simp <;> with_reducible rfl
        try simp only [Act.put, List.setIfInBounds_toArray, List.set_cons_zero, List.set_cons_succ]
        refine take_at (i := 16) (v := ?_) 70 rfl rfl (by kernel_rfl) (by kernel_rfl) (by kernel_rfl) (fun _ _ _ h => h) (Or.inl ⟨by rfl, ?_⟩) (by assumption) ?_
        rotate_left
        · intro w hSw; go_simp <;> with_reducible rfl
        try simp only [Act.put, List.setIfInBounds_toArray, List.set_cons_zero, List.set_cons_succ]
        refine take_at (i := 17) (v := ?_) 71 rfl rfl (by kernel_rfl) (by kernel_rfl) (by kernel_rfl) (fun _ _ _ h => h) (Or.inl ⟨by rfl, ?_⟩) (by assumption) ?_
        rotate_left
        · intro w hSw; go_simp <;> with_reducible rfl
        try simp only [Act.put, List.setIfInBounds_toArray, List.set_cons_zero, List.set_cons_succ]
        refine take_at (i := 18) (v := ?_) 72 rfl rfl (by kernel_rfl) (by kernel_rfl) (by kernel_rfl) (fun _ _ _ h => h) (Or.inl ⟨by rfl, ?_⟩) (by assumption) ?_
        rotate_left
        · intro w hSw; go_simp <;> with_reducible rfl
        try simp only [Act.put, List.setIfInBounds_toArray, List.set_cons_zero, List.set_cons_succ]
        refine take_at (i := 19) (v := ?_) 73 rfl rfl (by kernel_rfl) (by kernel_rfl) (by kernel_rfl) (fun _ _ _ h => h) (Or.inl ⟨by rfl, ?_⟩) (by assumption) ?_
        rotate_left
        · intro w hSw; go_simp <;> with_reducible rfl
        try simp only [Act.put, List.setIfInBounds_toArray, List.set_cons_zero, List.set_cons_succ]
        refine take_at (i := 20) (v := ?_) 74 rfl rfl (by kernel_rfl) (by kernel_rfl) (by kernel_rfl) (fun _ _ _ h => h) (Or.inl ⟨by rfl, ?_⟩) (by assumption) ?_
        rotate_left
        · intro w hSw; go_simp <;> with_reducible rfl
        try simp only [Act.put, List.setIfInBounds_toArray, List.set_cons_zero, List.set_cons_succ]
        refine take_at (i := 21) (v := ?_) 12 rfl rfl (by kernel_rfl) (by kernel_rfl) (by kernel_rfl) (fun _ _ _ h => h) (Or.inl ⟨by rfl, ?_⟩) (by assumption) ?_
        rotate_left
        · intro w hSw; go_simp <;> with_reducible rfl
        try simp only [Act.put, List.setIfInBounds_toArray, List.set_cons_zero, List.set_cons_succ]
        refine wpAnyH_done (by kernel_rfl) ?_ _
        go_wp2_with fail
        go_meet
        case rel => exact ⟨by rw [HVL.out], (Below.refl _ _).drew⟩
      · have hi2 : i = L.length := by omega
        subst hi2
        rw [List.take_length]
        have HRO7 := Lib.hid (row_of_heap HRO.out fun r hr => HBc.out.block r (HRO.out.lt r hr).2)
        have HLT : Hid (L.any (laterB x) = true → (blamesS [] 0 (L.take k ++ L.drop (k + 1))).any (namedP 3 x.gate x.number) = true) := fun ht => by
          obtain ⟨v, hv, hp⟩ := List.any_eq_true.mp ht
          unfold laterB at hp
          simp only [Bool.and_eq_true, decide_eq_true_eq] at hp
          exact any_named (HGAP.out v hv hp.1 hp.2)
        generalize L.any (laterB x) = later at *
        clear HRO HB6 HBc HGAP
        have HRL7 := Lib.hid (HR5.out.below HBr.out)
        obtain ⟨x0, x1, x2, x3, x4, x5⟩ := HKX.out _ HBr.out
        have HKX7 : Hid (∀ w' : World, Below wr.heap.size wr w' → w'.cell? ⟨gx, 0, none⟩ = some (.int .i64 x.gate) ∧ w'.cell? ⟨gx, 1, none⟩ = some (.int .i64 x.number) ∧ w'.cell? ⟨gx, 2, none⟩ = some (.int .i64 x.time) ∧ w'.cell? ⟨gx, 3, none⟩ = some (.int .i64 x.serial) ∧ w'.cell? ⟨gx, 4, none⟩ = some (.int .i64 x.kind) ∧ w'.cell? ⟨gx, 5, none⟩ = some (.string (bs x.owner))) := fun w' hb => HKX.out w' (HBr.out.trans (hb.mono HBr.out.size))
        have HW7 := Lib.hid (HW5.out.trans (HBr.out.mono HW5.out.size))
        have HLW : Hid (∀ s ∈ L.take k ++ L.drop (k + 1), WfS s) := fun s hs => (HWF.out s (HLM.out s hs)).wf
        have hle : (L.take k ++ L.drop (k + 1)).length = L.length - 1 := by rw [List.length_append, List.length_take, List.length_drop]; omega
        obtain ⟨ea, ec, rfl, hoe, hec⟩ := OwnRecs.of_row2 HRO7.out
        have HSL : Hid (Scs wr (.slice ea (L.length - 1) ec) (L.take k ++ L.drop (k + 1))) := Scs.of_row HRO7.out
        clear hoe hec x0 x1 x2 x3 x4 x5 HKX HR5
        go_upto_region 16 with fail
        go_cut [105] (fun v105 wx => v105 = .bool false ∧ Hid (Below wr.heap.size wr wx))
        case rest =>
          obtain ⟨rfl, HBq⟩ := hcut
          have HRO8 := Lib.hid (row_of_heap HRO7.out fun r hr => HBq.out.block r (HRO7.out.lt r hr).2)
          have HRL8 := Lib.hid (HRL7.out.below HBq.out)
          have HKX8 : Hid (∀ w' : World, Below wc.heap.size wc w' → w'.cell? ⟨gx, 0, none⟩ = some (.int .i64 x.gate) ∧ w'.cell? ⟨gx, 1, none⟩ = some (.int .i64 x.number) ∧ w'.cell? ⟨gx, 2, none⟩ = some (.int .i64 x.time) ∧ w'.cell? ⟨gx, 3, none⟩ = some (.int .i64 x.serial) ∧ w'.cell? ⟨gx, 4, none⟩ = some (.int .i64 x.kind) ∧ w'.cell? ⟨gx, 5, none⟩ = some (.string (bs x.owner))) := fun w' hb => HKX7.out w' (HBq.out.trans (hb.mono HBq.out.size))
          have HW8 := Lib.hid (HW7.out.trans (HBq.out.mono HW7.out.size))
          have hbase : w5.heap.size ≤ wc.heap.size := by have := HBr.out.size; have := HBq.out.size; omega
          have HX8 : Hid (wc.heap[gx]? = some (.cells #[.int .i64 x.gate, .int .i64 x.number, .int .i64 x.time, .int .i64 x.serial, .int .i64 x.kind, .string (bs x.owner)] 39 (0, 0))) := by
            have hb58 := HBr.out.trans (HBq.out.mono HBr.out.size)
            exact (hb58.block gx (lt_of_block HX5.out)).trans HX5.out
          have hgx5 : gx < w5.heap.size := lt_of_block HX5.out
          clear HRO7 HRL7 HKX7 HW7 HBq HBr HSL
          generalize wc = w8 at *
          obtain ⟨x0, x1, x2, x3, x4, x5⟩ := HKX8.out w8 (Below.refl _ _)
          go_upto_region 21 with fail
          have hA := Joins.below_alloc1 w8 (.cells #[.int .i64 x.gate, .int .i64 x.number, .int .i64 x.time, .int .i64 ser, .int .i64 3, .string (bs x.owner)] 39)
          have HGO : Hid ((w8.alloc (.cells #[.int .i64 x.gate, .int .i64 x.number, .int .i64 x.time, .int .i64 ser, .int .i64 3, .string (bs x.owner)] 39)).heap[w8.heap.size]? = some (.cells #[.int .i64 x.gate, .int .i64 x.number, .int .i64 x.time, .int .i64 ser, .int .i64 3, .string (bs x.owner)] 39 (0, 0))) := World.alloc_heap_new w8 _
          have HX9 : Hid ((w8.alloc (.cells #[.int .i64 x.gate, .int .i64 x.number, .int .i64 x.time, .int .i64 ser, .int .i64 3, .string (bs x.owner)] 39)).heap[gx]? = some (.cells #[.int .i64 x.gate, .int .i64 x.number, .int .i64 x.time, .int .i64 x.serial, .int .i64 x.kind, .string (bs x.owner)] 39 (0, 0))) := (hA.block gx (lt_of_block HX8.out)).trans HX8.out
          have HRO9 := Lib.hid (row_of_heap HRO8.out fun r hr => hA.block r (HRO8.out.lt r hr).2)
          have HRL9 := Lib.hid (HRL8.out.below hA)
          have HW9 := Lib.hid (HW8.out.trans (hA.mono HW8.out.size))
          have hbase9 : w5.heap.size ≤ (w8.alloc (.cells #[.int .i64 x.gate, .int .i64 x.number, .int .i64 x.time, .int .i64 ser, .int .i64 3, .string (bs x.owner)] 39)).heap.size := Nat.le_trans hbase hA.size
          clear hA HRO8 HRL8 HW8 HX8 HKX8 x0 x1 x2 x3 x4 x5
          generalize w8.alloc (.cells #[.int .i64 x.gate, .int .i64 x.number, .int .i64 x.time, .int .i64 ser, .int .i64 3, .string (bs x.owner)] 39) = wq at *
          generalize w8.heap.size = go at *
          have HKO : Hid (∀ w' : World, Below wq.heap.size wq w' → w'.cell? ⟨go, 0, none⟩ = some (.int .i64 x.gate) ∧ w'.cell? ⟨go, 1, none⟩ = some (.int .i64 x.number) ∧ w'.cell? ⟨go, 2, none⟩ = some (.int .i64 x.time) ∧ w'.cell? ⟨go, 3, none⟩ = some (.int .i64 ser) ∧ w'.cell? ⟨go, 4, none⟩ = some (.int .i64 3) ∧ w'.cell? ⟨go, 5, none⟩ = some (.string (bs x.owner)) ∧ w'.cell? ⟨gx, 0, none⟩ = some (.int .i64 x.gate) ∧ w'.cell? ⟨gx, 1, none⟩ = some (.int .i64 x.number)) := fun w' hb =>
            ⟨Below.cell_of hb (cell_of_row (j := 0) _ _ _ _ _ HGO.out), Below.cell_of hb (cell_of_row (j := 1) _ _ _ _ _ HGO.out), Below.cell_of hb (cell_of_row (j := 2) _ _ _ _ _ HGO.out), Below.cell_of hb (cell_of_row (j := 3) _ _ _ _ _ HGO.out), Below.cell_of hb (cell_of_row (j := 4) _ _ _ _ _ HGO.out), Below.cell_of hb (cell_of_row (j := 5) _ _ _ _ _ HGO.out), Below.cell_of hb (cell_of_row (j := 0) _ _ _ _ _ HX9.out), Below.cell_of hb (cell_of_row (j := 1) _ _ _ _ _ HX9.out)⟩
          have HSQ : Hid (Scs wq (.slice (some ⟨b1, 0, none⟩) L.length uc) L) := ⟨_, _, rfl, HRL9.out, fun e => by cases e⟩
          have HWO : Hid (∀ s ∈ L ++ [{ x with kind := 3, serial := ser }], WfS s) := fun s hs => by
            rcases List.mem_append.mp hs with hs | hs
            · exact (HWF.out s hs).wf
            · rw [List.mem_singleton.mp hs]
              have hw := HX.out.wf
              exact ⟨hw.1, hw.2.1, hw.2.2.1, HSE.out, wf_small (by show (-1000000 : Int) ≤ 3; omega) (by show (3 : Int) ≤ 1000000; omega)⟩
          have HFK := Lib.hid HFORK.out
          go_cut [122] (fun v122 wx => v122 = .bool false ∧ Below wq.heap.size wq wx)
          case rest =>
            obtain ⟨rfl, hb⟩ := hcut
            have HRO10 := Lib.hid (row_of_heap HRO9.out fun r hr => hb.block r (HRO9.out.lt r hr).2)
            have HRL10 := Lib.hid (HRL9.out.below hb)
            have HX10 : Hid (wc.heap[gx]? = some (.cells #[.int .i64 x.gate, .int .i64 x.number, .int .i64 x.time, .int .i64 x.serial, .int .i64 x.kind, .string (bs x.owner)] 39 (0, 0))) := (hb.block gx (lt_of_block HX9.out)).trans HX9.out
            have HW10 := Lib.hid (HW9.out.trans (hb.mono HW9.out.size))
            have hbase10 : w5.heap.size ≤ wc.heap.size := Nat.le_trans hbase9 hb.size
            clear hb HRO9 HRL9 HW9 HX9 HGO HKO HSQ HWO HFK
            by_cases hah : ah < 0
            · go_wp2_with fail
              go_ret
              exact ⟨rfl, HW10.out⟩
            · have hah2 : ∃ (j : Nat) (hj : j < L.length), ah = j ∧ L[j].gate = x.gate ∧ L[j].number = x.number - 1 := HAH.out.resolve_left (by omega)
              obtain ⟨j, hj, rfl, hjg, hjn⟩ := hah2
              obtain ⟨_, o1, e', _, _, d2, _⟩ := scn_at HRL10.out j hj hj
              cases e'
              rw [Nat.zero_add] at d2
              have hok := HWF.out _ (List.getElem_mem hj)
              have ht1 : 1 ≤ L[j].time := hok.2.2.2.2.1
              have ht2 : L[j].time ≤ 300000 := hok.2.2.2.2.2.1
              have HFK := Lib.hid (any_named (st := 0) (gone := []) (HORD.out L[j] (List.getElem_mem hj) hjg hjn))
              clear hok HAH hjg hjn
              generalize L[j].time = at1 at *
              have hji : (j : Int) < L.length := by omega
              have HWO : Hid (∀ s ∈ L.take k ++ L.drop (k + 1) ++ [{ x with time := at1 - 1 }], WfS s) := fun s hs => by
                rcases List.mem_append.mp hs with hs | hs
                · exact HLW.out s hs
                · rw [List.mem_singleton.mp hs]
                  have hw := HX.out.wf
                  exact ⟨hw.1, hw.2.1, wf_small (by show (-1000000 : Int) ≤ at1 - 1; omega) (by show at1 - 1 ≤ 1000000; omega), hw.2.2.2.1, hw.2.2.2.2⟩
              obtain ⟨x0, x1, x2, x3, x4, x5⟩ : wc.cell? ⟨gx, 0, none⟩ = some (.int .i64 x.gate) ∧ wc.cell? ⟨gx, 1, none⟩ = some (.int .i64 x.number) ∧ wc.cell? ⟨gx, 2, none⟩ = some (.int .i64 x.time) ∧ wc.cell? ⟨gx, 3, none⟩ = some (.int .i64 x.serial) ∧ wc.cell? ⟨gx, 4, none⟩ = some (.int .i64 x.kind) ∧ wc.cell? ⟨gx, 5, none⟩ = some (.string (bs x.owner)) := ⟨cell_of_row (j := 0) _ _ _ _ _ HX10.out, cell_of_row (j := 1) _ _ _ _ _ HX10.out, cell_of_row (j := 2) _ _ _ _ _ HX10.out, cell_of_row (j := 3) _ _ _ _ _ HX10.out, cell_of_row (j := 4) _ _ _ _ _ HX10.out, cell_of_row (j := 5) _ _ _ _ _ HX10.out⟩
              generalize wc = w10 at *
              have hA := Joins.below_alloc1 w10 (.cells #[.int .i64 x.gate, .int .i64 x.number, .int .i64 (at1 - 1), .int .i64 x.serial, .int .i64 x.kind, .string (bs x.owner)] 39)
              have d2' := Below.cell_of (Joins.below_alloc1 w10 (.cells #[.int .i64 x.gate, .int .i64 x.number, .int .i64 x.time, .int .i64 x.serial, .int .i64 x.kind, .string (bs x.owner)] 39)) d2
              go_upto_region 27 with fail
              have HGE : Hid ((w10.alloc (.cells #[.int .i64 x.gate, .int .i64 x.number, .int .i64 (at1 - 1), .int .i64 x.serial, .int .i64 x.kind, .string (bs x.owner)] 39)).heap[w10.heap.size]? = some (.cells #[.int .i64 x.gate, .int .i64 x.number, .int .i64 (at1 - 1), .int .i64 x.serial, .int .i64 x.kind, .string (bs x.owner)] 39 (0, 0))) := World.alloc_heap_new w10 _
              have HX11 : Hid ((w10.alloc (.cells #[.int .i64 x.gate, .int .i64 x.number, .int .i64 (at1 - 1), .int .i64 x.serial, .int .i64 x.kind, .string (bs x.owner)] 39)).heap[gx]? = some (.cells #[.int .i64 x.gate, .int .i64 x.number, .int .i64 x.time, .int .i64 x.serial, .int .i64 x.kind, .string (bs x.owner)] 39 (0, 0))) := (hA.block gx (lt_of_block HX10.out)).trans HX10.out
              have HRO11 := Lib.hid (row_of_heap HRO10.out fun r hr => hA.block r (HRO10.out.lt r hr).2)
              have HLT10 : Hid (∀ r, Value.ownBlock (.slice ea (L.length - 1) ec) = some r → r < w10.heap.size) := fun r hr => (HRO10.out.lt r hr).2
              have HW11 := Lib.hid (HW10.out.trans (hA.mono HW10.out.size))
              have hbase11 : w5.heap.size ≤ (w10.alloc (.cells #[.int .i64 x.gate, .int .i64 x.number, .int .i64 (at1 - 1), .int .i64 x.serial, .int .i64 x.kind, .string (bs x.owner)] 39)).heap.size := Nat.le_trans hbase10 hA.size
              clear hA HRO10 HRL10 HW10 HX10 x0 x1 x2 x3 x4 x5 d2 d2'
              generalize w10.alloc (.cells #[.int .i64 x.gate, .int .i64 x.number, .int .i64 (at1 - 1), .int .i64 x.serial, .int .i64 x.kind, .string (bs x.owner)] 39) = w11 at *
              generalize w10.heap.size = ge at *
              have HKE : Hid (∀ w' : World, w'.heap[ge]? = some (.cells #[.int .i64 x.gate, .int .i64 x.number, .int .i64 (at1 - 1), .int .i64 x.serial, .int .i64 x.kind, .string (bs x.owner)] 39 (0, 0)) → w'.heap[gx]? = some (.cells #[.int .i64 x.gate, .int .i64 x.number, .int .i64 x.time, .int .i64 x.serial, .int .i64 x.kind, .string (bs x.owner)] 39 (0, 0)) → w'.cell? ⟨ge, 0, none⟩ = some (.int .i64 x.gate) ∧ w'.cell? ⟨ge, 1, none⟩ = some (.int .i64 x.number) ∧ w'.cell? ⟨ge, 2, none⟩ = some (.int .i64 (at1 - 1)) ∧ w'.cell? ⟨ge, 3, none⟩ = some (.int .i64 x.serial) ∧ w'.cell? ⟨ge, 4, none⟩ = some (.int .i64 x.kind) ∧ w'.cell? ⟨ge, 5, none⟩ = some (.string (bs x.owner)) ∧ w'.cell? ⟨gx, 0, none⟩ = some (.int .i64 x.gate) ∧ w'.cell? ⟨gx, 1, none⟩ = some (.int .i64 x.number)) := fun w' hE hX =>
                ⟨cell_of_row (j := 0) _ _ _ _ _ hE, cell_of_row (j := 1) _ _ _ _ _ hE, cell_of_row (j := 2) _ _ _ _ _ hE, cell_of_row (j := 3) _ _ _ _ _ hE, cell_of_row (j := 4) _ _ _ _ _ hE, cell_of_row (j := 5) _ _ _ _ _ hE, cell_of_row (j := 0) _ _ _ _ _ hX, cell_of_row (j := 1) _ _ _ _ _ hX⟩
              refine wp_region_held_drew (S := fun w' => w'.cell? ⟨ge, 0, none⟩ = some (.int .i64 x.gate) ∧ w'.cell? ⟨ge, 1, none⟩ = some (.int .i64 x.number) ∧ w'.cell? ⟨ge, 2, none⟩ = some (.int .i64 (at1 - 1)) ∧ w'.cell? ⟨ge, 3, none⟩ = some (.int .i64 x.serial) ∧ w'.cell? ⟨ge, 4, none⟩ = some (.int .i64 x.kind) ∧ w'.cell? ⟨ge, 5, none⟩ = some (.string (bs x.owner)) ∧ w'.cell? ⟨gx, 0, none⟩ = some (.int .i64 x.gate) ∧ w'.cell? ⟨gx, 1, none⟩ = some (.int .i64 x.number)) (by kernel_rfl) (HKE.out w11 HGE.out HX11.out) (fun hHeld => ?_)
              refine take_at (i := 0) (v := ?_) 134 rfl rfl (by kernel_rfl) (by kernel_rfl) (by kernel_rfl) (fun _ _ _ h => h) (Or.inl ⟨by rfl, ?_⟩) (by assumption) ?_
              rotate_left
              · intro w hSw; go_simp <;> with_reducible rfl
              try simp only [Act.put, List.setIfInBounds_toArray, List.set_cons_zero, List.set_cons_succ]
              refine take_at (i := 1) (v := ?_) 135 rfl rfl (by kernel_rfl) (by kernel_rfl) (by kernel_rfl) (fun _ _ _ h => h) (Or.inl ⟨by rfl, ?_⟩) (by assumption) ?_
              rotate_left
              · intro w hSw; go_simp <;> with_reducible rfl
              try simp only [Act.put, List.setIfInBounds_toArray, List.set_cons_zero, List.set_cons_succ]
              refine take_at (i := 2) (v := ?_) 136 rfl rfl (by kernel_rfl) (by kernel_rfl) (by kernel_rfl) (fun _ _ _ h => h) (Or.inl ⟨by rfl, ?_⟩) (by assumption) ?_
              rotate_left
              · intro w hSw; go_simp <;> with_reducible rfl
              try simp only [Act.put, List.setIfInBounds_toArray, List.set_cons_zero, List.set_cons_succ]
              refine take_at (i := 3) (v := ?_) 137 rfl rfl (by kernel_rfl) (by kernel_rfl) (by kernel_rfl) (fun _ _ _ h => h) (Or.inl ⟨by rfl, ?_⟩) (by assumption) ?_
              rotate_left
              · intro w hSw; go_simp <;> with_reducible rfl
              try simp only [Act.put, List.setIfInBounds_toArray, List.set_cons_zero, List.set_cons_succ]
              refine take_at (i := 7) (v := ?_) 141 rfl rfl (by kernel_rfl) (by kernel_rfl) (by kernel_rfl) (fun _ _ _ h => h) (Or.inl ⟨by rfl, ?_⟩) (by assumption) ?_
              rotate_left
              · intro w hSw; go_simp <;> with_reducible rfl
              try simp only [Act.put, List.setIfInBounds_toArray, List.set_cons_zero, List.set_cons_succ]
              refine take_at (i := 8) (v := ?_) 142 rfl rfl (by kernel_rfl) (by kernel_rfl) (by kernel_rfl) (fun _ _ _ h => h) (Or.inl ⟨by rfl, ?_⟩) (by assumption) ?_
              rotate_left
              · intro w hSw; go_simp <;> with_reducible rfl
              try simp only [Act.put, List.setIfInBounds_toArray, List.set_cons_zero, List.set_cons_succ]
              refine take_at (i := 9) (v := ?_) 143 rfl rfl (by kernel_rfl) (by kernel_rfl) (by kernel_rfl) (fun _ _ _ h => h) (Or.inl ⟨by rfl, ?_⟩) (by assumption) ?_
              rotate_left
              · intro w hSw; go_simp <;> with_reducible rfl
              try simp only [Act.put, List.setIfInBounds_toArray, List.set_cons_zero, List.set_cons_succ]
              refine take_at (i := 10) (v := ?_) 144 rfl rfl (by kernel_rfl) (by kernel_rfl) (by kernel_rfl) (fun _ _ _ h => h) (Or.inl ⟨by rfl, ?_⟩) (by assumption) ?_
              rotate_left
              · intro w hSw; go_simp <;> with_reducible rfl
              try simp only [Act.put, List.setIfInBounds_toArray, List.set_cons_zero, List.set_cons_succ]
              have hA := (Joins.below_alloc1 w11 (.cells #[.int .i64 x.gate, .int .i64 x.number, .int .i64 (at1 - 1), .int .i64 x.serial, .int .i64 x.kind, .string (bs x.owner)] 39)).drew
              have hrz : RecRow ScnE (w11.alloc (.cells #[.int .i64 x.gate, .int .i64 x.number, .int .i64 (at1 - 1), .int .i64 x.serial, .int .i64 x.kind, .string (bs x.owner)] 39)).drew w11.heap.size 39 [{ x with time := at1 - 1 }] := (rec_new (w := w11.alloc (.cells #[.int .i64 x.gate, .int .i64 x.number, .int .i64 (at1 - 1), .int .i64 x.serial, .int .i64 x.kind, .string (bs x.owner)] 39)) _ (World.alloc_heap_new w11 _)).below (Below.refl _ _).drew
              have hoz := row_of_heap HRO11.out fun r hr => hA.block r (HRO11.out.lt r hr).2
              have hez := (hA.block ge (lt_of_block HGE.out)).trans HGE.out
              have hxz := (hA.block gx (lt_of_block HX11.out)).trans HX11.out
              have hwz := HW11.out.trans (hA.mono HW11.out.size)
              have hbz : w5.heap.size ≤ (w11.alloc (.cells #[.int .i64 x.gate, .int .i64 x.number, .int .i64 (at1 - 1), .int .i64 x.serial, .int .i64 x.kind, .string (bs x.owner)] 39)).drew.heap.size := Nat.le_trans hbase11 hA.size
              clear hA
              refine wpAnyH_ready (rs := [4]) (by kernel_rfl) (by simp) ?_
              refine AllReadyH.cons rfl (fun K' hK => ?_) AllReadyH.nil
              go_simp
              go_simp
              refine hK.out _ _ (HKE.out _ hez hxz) (fun hHeld => ?_)
              clear hK K'
              try simp only [Act.put, List.setIfInBounds_toArray, List.set_cons_zero, List.set_cons_succ]
              generalize (w11.alloc (.cells #[.int .i64 x.gate, .int .i64 x.number, .int .i64 (at1 - 1), .int .i64 x.serial, .int .i64 x.kind, .string (bs x.owner)] 39)).drew = wz at *
              obtain ⟨v9, w9, hrun9, ho9, hg9, _⟩ := run_append_scs 22 hoz (scs_row hrz) (by show L.length - 1 + 1 ≤ _; omega) hbz
              have he9 := (hg9.block ge (lt_of_block hez) (fun e => by have := HLT10.out ge e.symm; omega)).trans hez
              have hx9 := (hg9.block gx (lt_of_block hxz) (fun e => by have := (hoz.lt gx e.symm).1; omega)).trans hxz
              have hw9 := hwz.grown hg9 hwz.size (fun b e => Nat.le_trans HWS.out (hoz.lt b e).1)
              refine wpAnyH_ready (rs := [5]) (by kernel_rfl) (by simp) ?_
              refine AllReadyH.cons rfl (fun K' hK => ?_) AllReadyH.nil
              refine step_append_w (by rfl) (.tmp 136) (.tmp 138) 22 rfl 22 rfl hrun9 rfl rfl ?_
              go_simp
              refine hK.out _ _ (HKE.out _ he9 hx9) (fun hHeld => ?_)
              clear hK K'
              try simp only [Act.put, List.setIfInBounds_toArray, List.set_cons_zero, List.set_cons_succ]
              have hs9 : Scs w9 v9 (L.take k ++ L.drop (k + 1) ++ [{ x with time := at1 - 1 }]) := Scs.of_row ho9
              clear hrun9 ho9 hg9 hoz hrz hbz
              have hMl : (L.take k ++ L.drop (k + 1) ++ [{ x with time := at1 - 1 }]).length ≤ 61 := by rw [List.length_append, hle]; show L.length - 1 + 1 ≤ _; omega
              generalize L.take k ++ L.drop (k + 1) ++ [{ x with time := at1 - 1 }] = M at *
              refine wpAnyH_ready (rs := [6]) (by kernel_rfl) (by simp) ?_
              refine AllReadyH.cons rfl (fun K' hK => ?_) AllReadyH.nil
              go_simp
              refine (mblames_any w9 v9 M none 0 0 [] 0 hs9 (by omega) (Nat.le_trans (mergeS_len _) (by omega)) (Recs.none _) (by decide) HWO.out).mono ?_
              rintro e w12 ⟨pa, pc, rfl, ho12, hbl12⟩
              have he12 := (hbl12.block ge (lt_of_block he9)).trans he9
              have hx12 := (hbl12.block gx (lt_of_block hx9)).trans hx9
              have hw12 := hw9.trans (hbl12.mono hw9.size)
              go_simp
              refine hK.out _ _ (HKE.out _ he12 hx12) (fun hHeld => ?_)
              clear hK K'
              try simp only [Act.put, List.setIfInBounds_toArray, List.set_cons_zero, List.set_cons_succ]
              refine wpAnyH_ready (rs := [11]) (by kernel_rfl) (by simp) ?_
              refine AllReadyH.cons rfl (fun K' hK => ?_) AllReadyH.nil
              go_simp
              refine (named_any pa _ pc _ 3 x.gate x.number w12 ho12.recs (blamesS_len (Nat.le_trans (mergeS_len _) (by omega)))).mono ?_
              rintro e w13 ⟨he, rfl⟩
              rw [show List.any (blamesS (goneOf []) 0 M) (namedP 3 x.gate x.number) = true from HFK.out] at he
              subst he
              go_simp
              refine hK.out _ _ (HKE.out _ he12 hx12) (fun hHeld => ?_)
              clear hK K'
              try simp only [Act.put, List.setIfInBounds_toArray, List.set_cons_zero, List.set_cons_succ]
              refine take_at (i := 12) (v := ?_) 146 rfl rfl (by kernel_rfl) (by kernel_rfl) (by kernel_rfl) (fun _ _ _ h => h) (Or.inl ⟨by rfl, ?_⟩) (by assumption) ?_
              rotate_left
              · intro w hSw; go_simp <;> with_reducible rfl
              try simp only [Act.put, List.setIfInBounds_toArray, List.set_cons_zero, List.set_cons_succ]
              refine take_at (i := 13) (v := ?_) 6 rfl rfl (by kernel_rfl) (by kernel_rfl) (by kernel_rfl) (fun _ _ _ h => h) (Or.inl ⟨by rfl, ?_⟩) (by assumption) ?_
              rotate_left
              · intro w hSw; go_simp <;> with_reducible rfl
              try simp only [Act.put, List.setIfInBounds_toArray, List.set_cons_zero, List.set_cons_succ]
              refine wpAnyH_done (by kernel_rfl) ?_ _
              go_wp2_with fail
              go_ret
              exact ⟨rfl, hw12⟩
          refine wp_region_held_drew (S := fun w' => w'.cell? ⟨go, 0, none⟩ = some (.int .i64 x.gate) ∧ w'.cell? ⟨go, 1, none⟩ = some (.int .i64 x.number) ∧ w'.cell? ⟨go, 2, none⟩ = some (.int .i64 x.time) ∧ w'.cell? ⟨go, 3, none⟩ = some (.int .i64 ser) ∧ w'.cell? ⟨go, 4, none⟩ = some (.int .i64 3) ∧ w'.cell? ⟨go, 5, none⟩ = some (.string (bs x.owner)) ∧ w'.cell? ⟨gx, 0, none⟩ = some (.int .i64 x.gate) ∧ w'.cell? ⟨gx, 1, none⟩ = some (.int .i64 x.number)) (by kernel_rfl) (HKO.out wq (Below.refl _ _)) (fun hHeld => ?_)
          refine take_at (i := 1) (v := ?_) 111 rfl rfl (by kernel_rfl) (by kernel_rfl) (by kernel_rfl) (fun _ _ _ h => h) (Or.inl ⟨by rfl, ?_⟩) (by assumption) ?_
          rotate_left
          · intro w hSw; go_simp <;> with_reducible rfl
          try simp only [Act.put, List.setIfInBounds_toArray, List.set_cons_zero, List.set_cons_succ]
          refine take_at (i := 3) (v := ?_) 113 rfl rfl (by kernel_rfl) (by kernel_rfl) (by kernel_rfl) (fun _ _ _ h => h) (Or.inl ⟨by rfl, ?_⟩) (by assumption) ?_
          rotate_left
          · intro w hSw; go_simp <;> with_reducible rfl
          try simp only [Act.put, List.setIfInBounds_toArray, List.set_cons_zero, List.set_cons_succ]
          refine take_at (i := 7) (v := ?_) 117 rfl rfl (by kernel_rfl) (by kernel_rfl) (by kernel_rfl) (fun _ _ _ h => h) (Or.inl ⟨by rfl, ?_⟩) (by assumption) ?_
          rotate_left
          · intro w hSw; go_simp <;> with_reducible rfl
          try simp only [Act.put, List.setIfInBounds_toArray, List.set_cons_zero, List.set_cons_succ]
          refine take_at (i := 8) (v := ?_) 118 rfl rfl (by kernel_rfl) (by kernel_rfl) (by kernel_rfl) (fun _ _ _ h => h) (Or.inl ⟨by rfl, ?_⟩) (by assumption) ?_
          rotate_left
          · intro w hSw; go_simp <;> with_reducible rfl
          try simp only [Act.put, List.setIfInBounds_toArray, List.set_cons_zero, List.set_cons_succ]
          refine take_at (i := 9) (v := ?_) 119 rfl rfl (by kernel_rfl) (by kernel_rfl) (by kernel_rfl) (fun _ _ _ h => h) (Or.inl ⟨by rfl, ?_⟩) (by assumption) ?_
          rotate_left
          · intro w hSw; go_simp <;> with_reducible rfl
          try simp only [Act.put, List.setIfInBounds_toArray, List.set_cons_zero, List.set_cons_succ]
          refine take_at (i := 10) (v := ?_) 120 rfl rfl (by kernel_rfl) (by kernel_rfl) (by kernel_rfl) (fun _ _ _ h => h) (Or.inl ⟨by rfl, ?_⟩) (by assumption) ?_
          rotate_left
          · intro w hSw; go_simp <;> with_reducible rfl
          try simp only [Act.put, List.setIfInBounds_toArray, List.set_cons_zero, List.set_cons_succ]
          refine wpAnyH_ready (rs := [0, 4]) (by kernel_rfl) (by simp) ?_
          refine AllReadyH.cons rfl (fun K' hK => ?_) (AllReadyH.cons rfl (fun K' hK => ?_) AllReadyH.nil)
          · have hA41 := (Joins.below_alloc1 wq (.cells #[] 39)).drew
            have hb41 : Below wq.heap.size wq (wq.alloc (.cells #[] 39)).drew := hA41
            have hv41 : World.ownsRow (wq.alloc (.cells #[] 39)).drew wq.heap.size 39 6 (.slice (some ⟨wq.heap.size, 0, none⟩) 0 0) 0 (flat ScnE []) := ⟨rfl, Or.inr ⟨wq.heap.size, 0, #[], rfl, Nat.le_refl _, World.alloc_heap_new wq _, Nat.le_refl _, by decide, rfl, rfl⟩⟩
            go_simp
            go_simp
            refine hK.out _ _ (HKO.out _ hb41) (fun hHeld => ?_)
            clear hK K'
            try simp only [Act.put, List.setIfInBounds_toArray, List.set_cons_zero, List.set_cons_succ]
            generalize (wq.alloc (.cells #[] 39)).drew = w_41 at *
            refine wpAnyH_ready (rs := [2, 4]) (by kernel_rfl) (by simp) ?_
            refine AllReadyH.cons rfl (fun K' hK => ?_) (AllReadyH.cons rfl (fun K' hK => ?_) AllReadyH.nil)
            · obtain ⟨v42, w_42, hrun42, ho42, hg42, _⟩ := run_append_scs 22 hv41 (HSQ.out.below hb41) (by omega) hb41.size
              have hb42 : Below wq.heap.size wq w_42 := hb41.grown hg42 hb41.size (fun b e => (hv41.lt b e).1)
              refine step_append_w (by rfl) (.tmp 110) (.tmp 111) 22 rfl 22 rfl hrun42 rfl rfl ?_
              go_simp
              refine hK.out _ _ (HKO.out _ hb42) (fun hHeld => ?_)
              clear hK K'
              try simp only [Act.put, List.setIfInBounds_toArray, List.set_cons_zero, List.set_cons_succ]
              refine wpAnyH_ready (rs := [4]) (by kernel_rfl) (by simp) ?_
              refine AllReadyH.cons rfl (fun K' hK => ?_) AllReadyH.nil
              have hA43 := (Joins.below_alloc1 w_42 (.cells #[.int .i64 x.gate, .int .i64 x.number, .int .i64 x.time, .int .i64 ser, .int .i64 3, .string (bs x.owner)] 39))
              have hb43 : Below wq.heap.size wq (w_42.alloc (.cells #[.int .i64 x.gate, .int .i64 x.number, .int .i64 x.time, .int .i64 ser, .int .i64 3, .string (bs x.owner)] 39)) := hb42.trans (hA43.mono hb42.size)
              have hr43 : RecRow ScnE (w_42.alloc (.cells #[.int .i64 x.gate, .int .i64 x.number, .int .i64 x.time, .int .i64 ser, .int .i64 3, .string (bs x.owner)] 39)) w_42.heap.size 39 [{ x with kind := 3, serial := ser }] := rec_new _ (World.alloc_heap_new w_42 _)
              have hv43 := row_of_heap ho42 fun r hr => hA43.block r (ho42.lt r hr).2
              go_simp
              go_simp
              refine hK.out _ _ (HKO.out _ hb43) (fun hHeld => ?_)
              clear hK K'
              try simp only [Act.put, List.setIfInBounds_toArray, List.set_cons_zero, List.set_cons_succ]
              generalize (w_42.alloc (.cells #[.int .i64 x.gate, .int .i64 x.number, .int .i64 x.time, .int .i64 ser, .int .i64 3, .string (bs x.owner)] 39)) = w_43 at *
              have hbz := hb43
              have hoz := hv43
              have hrz := hr43
              generalize w_43 = wz at *
              clear hb43 hv43 hr43
              obtain ⟨v9, w9, hrun9, ho9, hg9, _⟩ := run_append_scs 22 hoz (scs_row hrz) (by show 0 + L.length + 1 ≤ _; omega) hbz.size
              have hb9 : Below wq.heap.size wq w9 := hbz.grown hg9 hbz.size (fun b e => (hoz.lt b e).1)
              refine wpAnyH_ready (rs := [5]) (by kernel_rfl) (by simp) ?_
              refine AllReadyH.cons rfl (fun K' hK => ?_) AllReadyH.nil
              refine step_append_w (by rfl) (.tmp 112) (.tmp 114) 22 rfl 22 rfl hrun9 rfl rfl ?_
              go_simp
              refine hK.out _ _ (HKO.out _ hb9) (fun hHeld => ?_)
              clear hK K'
              try simp only [Act.put, List.setIfInBounds_toArray, List.set_cons_zero, List.set_cons_succ]
              have hs9 : Scs w9 v9 (L ++ [{ x with kind := 3, serial := ser }]) := Scs.of_row ho9
              clear hrun9 ho9 hg9 hoz hrz hbz
              refine wpAnyH_ready (rs := [6]) (by kernel_rfl) (by simp) ?_
              refine AllReadyH.cons rfl (fun K' hK => ?_) AllReadyH.nil
              go_simp
              refine (mblames_any w9 v9 (L ++ [{ x with kind := 3, serial := ser }]) none 0 0 [] 0 hs9 (by rw [List.length_append]; show L.length + 1 ≤ _; omega) (Nat.le_trans (mergeS_len _) (by rw [List.length_append]; show L.length + 1 ≤ _; omega)) (Recs.none _) (by decide) HWO.out).mono ?_
              rintro e w10 ⟨pa, pc, rfl, ho10, hbl10⟩
              have hb10 := hb9.trans (hbl10.mono hb9.size)
              go_simp
              refine hK.out _ _ (HKO.out _ hb10) (fun hHeld => ?_)
              clear hK K'
              try simp only [Act.put, List.setIfInBounds_toArray, List.set_cons_zero, List.set_cons_succ]
              refine wpAnyH_ready (rs := [11]) (by kernel_rfl) (by simp) ?_
              refine AllReadyH.cons rfl (fun K' hK => ?_) AllReadyH.nil
              go_simp
              refine (named_any pa _ pc _ 2 x.gate x.number w10 ho10.recs (blamesS_len (Nat.le_trans (mergeS_len _) (by rw [List.length_append]; show L.length + 1 ≤ _; omega)))).mono ?_
              rintro e w11 ⟨he, rfl⟩
              rw [show List.any (blamesS (goneOf []) 0 (L ++ [{ x with kind := 3, serial := ser }])) (namedP 2 x.gate x.number) = true from HFK.out] at he
              subst he
              go_simp
              refine hK.out _ _ (HKO.out _ hb10) (fun hHeld => ?_)
              clear hK K'
              try simp only [Act.put, List.setIfInBounds_toArray, List.set_cons_zero, List.set_cons_succ]
              refine take_at (i := 12) (v := ?_) 122 rfl rfl (by kernel_rfl) (by kernel_rfl) (by kernel_rfl) (fun _ _ _ h => h) (Or.inl ⟨by rfl, ?_⟩) (by assumption) ?_
              rotate_left
              · intro w hSw; go_simp <;> with_reducible rfl
              try simp only [Act.put, List.setIfInBounds_toArray, List.set_cons_zero, List.set_cons_succ]
              refine wpAnyH_done (by kernel_rfl) ?_ _
              go_wp2_with fail
              go_meet
              case rel => exact ⟨rfl, hb10⟩
            · have hA44 := (Joins.below_alloc1 w_41 (.cells #[.int .i64 x.gate, .int .i64 x.number, .int .i64 x.time, .int .i64 ser, .int .i64 3, .string (bs x.owner)] 39))
              have hb44 : Below wq.heap.size wq (w_41.alloc (.cells #[.int .i64 x.gate, .int .i64 x.number, .int .i64 x.time, .int .i64 ser, .int .i64 3, .string (bs x.owner)] 39)) := hb41.trans (hA44.mono hb41.size)
              have hr44 : RecRow ScnE (w_41.alloc (.cells #[.int .i64 x.gate, .int .i64 x.number, .int .i64 x.time, .int .i64 ser, .int .i64 3, .string (bs x.owner)] 39)) w_41.heap.size 39 [{ x with kind := 3, serial := ser }] := rec_new _ (World.alloc_heap_new w_41 _)
              have hv44 := row_of_heap hv41 fun r hr => hA44.block r (hv41.lt r hr).2
              have hn44 : w_41.heap.size ≠ wq.heap.size := Nat.ne_of_gt (hv41.lt _ rfl).2
              go_simp
              go_simp
              refine hK.out _ _ (HKO.out _ hb44) (fun hHeld => ?_)
              clear hK K'
              try simp only [Act.put, List.setIfInBounds_toArray, List.set_cons_zero, List.set_cons_succ]
              generalize (w_41.alloc (.cells #[.int .i64 x.gate, .int .i64 x.number, .int .i64 x.time, .int .i64 ser, .int .i64 3, .string (bs x.owner)] 39)) = w_44 at *
              refine wpAnyH_ready (rs := [2]) (by kernel_rfl) (by simp) ?_
              refine AllReadyH.cons rfl (fun K' hK => ?_) AllReadyH.nil
              obtain ⟨v45, w_45, hrun45, ho45, hg45, _⟩ := run_append_scs 22 hv44 (HSQ.out.below hb44) (by omega) hb44.size
              have hb45 : Below wq.heap.size wq w_45 := hb44.grown hg45 hb44.size (fun b e => (hv44.lt b e).1)
              have hr45 := hr44.grown hg45 (fun e => hn44 (Option.some.inj e))
              refine step_append_w (by rfl) (.tmp 110) (.tmp 111) 22 rfl 22 rfl hrun45 rfl rfl ?_
              go_simp
              refine hK.out _ _ (HKO.out _ hb45) (fun hHeld => ?_)
              clear hK K'
              try simp only [Act.put, List.setIfInBounds_toArray, List.set_cons_zero, List.set_cons_succ]
              have hbz := hb45
              have hoz := ho45
              have hrz := hr45
              generalize w_45 = wz at *
              clear hb45 ho45 hr45
              obtain ⟨v9, w9, hrun9, ho9, hg9, _⟩ := run_append_scs 22 hoz (scs_row hrz) (by show 0 + L.length + 1 ≤ _; omega) hbz.size
              have hb9 : Below wq.heap.size wq w9 := hbz.grown hg9 hbz.size (fun b e => (hoz.lt b e).1)
              refine wpAnyH_ready (rs := [5]) (by kernel_rfl) (by simp) ?_
              refine AllReadyH.cons rfl (fun K' hK => ?_) AllReadyH.nil
              refine step_append_w (by rfl) (.tmp 112) (.tmp 114) 22 rfl 22 rfl hrun9 rfl rfl ?_
              go_simp
              refine hK.out _ _ (HKO.out _ hb9) (fun hHeld => ?_)
              clear hK K'
              try simp only [Act.put, List.setIfInBounds_toArray, List.set_cons_zero, List.set_cons_succ]
              have hs9 : Scs w9 v9 (L ++ [{ x with kind := 3, serial := ser }]) := Scs.of_row ho9
              clear hrun9 ho9 hg9 hoz hrz hbz
              refine wpAnyH_ready (rs := [6]) (by kernel_rfl) (by simp) ?_
              refine AllReadyH.cons rfl (fun K' hK => ?_) AllReadyH.nil
              go_simp
              refine (mblames_any w9 v9 (L ++ [{ x with kind := 3, serial := ser }]) none 0 0 [] 0 hs9 (by rw [List.length_append]; show L.length + 1 ≤ _; omega) (Nat.le_trans (mergeS_len _) (by rw [List.length_append]; show L.length + 1 ≤ _; omega)) (Recs.none _) (by decide) HWO.out).mono ?_
              rintro e w10 ⟨pa, pc, rfl, ho10, hbl10⟩
              have hb10 := hb9.trans (hbl10.mono hb9.size)
              go_simp
              refine hK.out _ _ (HKO.out _ hb10) (fun hHeld => ?_)
              clear hK K'
              try simp only [Act.put, List.setIfInBounds_toArray, List.set_cons_zero, List.set_cons_succ]
              refine wpAnyH_ready (rs := [11]) (by kernel_rfl) (by simp) ?_
              refine AllReadyH.cons rfl (fun K' hK => ?_) AllReadyH.nil
              go_simp
              refine (named_any pa _ pc _ 2 x.gate x.number w10 ho10.recs (blamesS_len (Nat.le_trans (mergeS_len _) (by rw [List.length_append]; show L.length + 1 ≤ _; omega)))).mono ?_
              rintro e w11 ⟨he, rfl⟩
              rw [show List.any (blamesS (goneOf []) 0 (L ++ [{ x with kind := 3, serial := ser }])) (namedP 2 x.gate x.number) = true from HFK.out] at he
              subst he
              go_simp
              refine hK.out _ _ (HKO.out _ hb10) (fun hHeld => ?_)
              clear hK K'
              try simp only [Act.put, List.setIfInBounds_toArray, List.set_cons_zero, List.set_cons_succ]
              refine take_at (i := 12) (v := ?_) 122 rfl rfl (by kernel_rfl) (by kernel_rfl) (by kernel_rfl) (fun _ _ _ h => h) (Or.inl ⟨by rfl, ?_⟩) (by assumption) ?_
              rotate_left
              · intro w hSw; go_simp <;> with_reducible rfl
              try simp only [Act.put, List.setIfInBounds_toArray, List.set_cons_zero, List.set_cons_succ]
              refine wpAnyH_done (by kernel_rfl) ?_ _
              go_wp2_with fail
              go_meet
              case rel => exact ⟨rfl, hb10⟩
          · have hA46 := (Joins.below_alloc1 wq (.cells #[.int .i64 x.gate, .int .i64 x.number, .int .i64 x.time, .int .i64 ser, .int .i64 3, .string (bs x.owner)] 39)).drew
            have hb46 : Below wq.heap.size wq (wq.alloc (.cells #[.int .i64 x.gate, .int .i64 x.number, .int .i64 x.time, .int .i64 ser, .int .i64 3, .string (bs x.owner)] 39)).drew := hA46
            have hr46 : RecRow ScnE (wq.alloc (.cells #[.int .i64 x.gate, .int .i64 x.number, .int .i64 x.time, .int .i64 ser, .int .i64 3, .string (bs x.owner)] 39)).drew wq.heap.size 39 [{ x with kind := 3, serial := ser }] := (rec_new (w := wq.alloc (.cells #[.int .i64 x.gate, .int .i64 x.number, .int .i64 x.time, .int .i64 ser, .int .i64 3, .string (bs x.owner)] 39)) _ (World.alloc_heap_new wq _)).below (Below.refl _ _).drew
            go_simp
            go_simp
            refine hK.out _ _ (HKO.out _ hb46) (fun hHeld => ?_)
            clear hK K'
            try simp only [Act.put, List.setIfInBounds_toArray, List.set_cons_zero, List.set_cons_succ]
            generalize (wq.alloc (.cells #[.int .i64 x.gate, .int .i64 x.number, .int .i64 x.time, .int .i64 ser, .int .i64 3, .string (bs x.owner)] 39)).drew = w_46 at *
            refine wpAnyH_ready (rs := [0]) (by kernel_rfl) (by simp) ?_
            refine AllReadyH.cons rfl (fun K' hK => ?_) AllReadyH.nil
            have hA47 := (Joins.below_alloc1 w_46 (.cells #[] 39))
            have hb47 : Below wq.heap.size wq (w_46.alloc (.cells #[] 39)) := hb46.trans (hA47.mono hb46.size)
            have hv47 : World.ownsRow (w_46.alloc (.cells #[] 39)) wq.heap.size 39 6 (.slice (some ⟨w_46.heap.size, 0, none⟩) 0 0) 0 (flat ScnE []) := ⟨rfl, Or.inr ⟨w_46.heap.size, 0, #[], rfl, hb46.size, World.alloc_heap_new w_46 _, Nat.le_refl _, by decide, rfl, rfl⟩⟩
            have hr47 := hr46.below hA47
            have hn47 : wq.heap.size ≠ w_46.heap.size := Nat.ne_of_lt hr46.lt
            go_simp
            go_simp
            refine hK.out _ _ (HKO.out _ hb47) (fun hHeld => ?_)
            clear hK K'
            try simp only [Act.put, List.setIfInBounds_toArray, List.set_cons_zero, List.set_cons_succ]
            generalize (w_46.alloc (.cells #[] 39)) = w_47 at *
            refine wpAnyH_ready (rs := [2]) (by kernel_rfl) (by simp) ?_
            refine AllReadyH.cons rfl (fun K' hK => ?_) AllReadyH.nil
            obtain ⟨v48, w_48, hrun48, ho48, hg48, _⟩ := run_append_scs 22 hv47 (HSQ.out.below hb47) (by omega) hb47.size
            have hb48 : Below wq.heap.size wq w_48 := hb47.grown hg48 hb47.size (fun b e => (hv47.lt b e).1)
            have hr48 := hr47.grown hg48 (fun e => hn47 (Option.some.inj e))
            refine step_append_w (by rfl) (.tmp 110) (.tmp 111) 22 rfl 22 rfl hrun48 rfl rfl ?_
            go_simp
            refine hK.out _ _ (HKO.out _ hb48) (fun hHeld => ?_)
            clear hK K'
            try simp only [Act.put, List.setIfInBounds_toArray, List.set_cons_zero, List.set_cons_succ]
            have hbz := hb48
            have hoz := ho48
            have hrz := hr48
            generalize w_48 = wz at *
            clear hb48 ho48 hr48
            obtain ⟨v9, w9, hrun9, ho9, hg9, _⟩ := run_append_scs 22 hoz (scs_row hrz) (by show 0 + L.length + 1 ≤ _; omega) hbz.size
            have hb9 : Below wq.heap.size wq w9 := hbz.grown hg9 hbz.size (fun b e => (hoz.lt b e).1)
            refine wpAnyH_ready (rs := [5]) (by kernel_rfl) (by simp) ?_
            refine AllReadyH.cons rfl (fun K' hK => ?_) AllReadyH.nil
            refine step_append_w (by rfl) (.tmp 112) (.tmp 114) 22 rfl 22 rfl hrun9 rfl rfl ?_
            go_simp
            refine hK.out _ _ (HKO.out _ hb9) (fun hHeld => ?_)
            clear hK K'
            try simp only [Act.put, List.setIfInBounds_toArray, List.set_cons_zero, List.set_cons_succ]
            have hs9 : Scs w9 v9 (L ++ [{ x with kind := 3, serial := ser }]) := Scs.of_row ho9
            clear hrun9 ho9 hg9 hoz hrz hbz
            refine wpAnyH_ready (rs := [6]) (by kernel_rfl) (by simp) ?_
            refine AllReadyH.cons rfl (fun K' hK => ?_) AllReadyH.nil
            go_simp
            refine (mblames_any w9 v9 (L ++ [{ x with kind := 3, serial := ser }]) none 0 0 [] 0 hs9 (by rw [List.length_append]; show L.length + 1 ≤ _; omega) (Nat.le_trans (mergeS_len _) (by rw [List.length_append]; show L.length + 1 ≤ _; omega)) (Recs.none _) (by decide) HWO.out).mono ?_
            rintro e w10 ⟨pa, pc, rfl, ho10, hbl10⟩
            have hb10 := hb9.trans (hbl10.mono hb9.size)
            go_simp
            refine hK.out _ _ (HKO.out _ hb10) (fun hHeld => ?_)
            clear hK K'
            try simp only [Act.put, List.setIfInBounds_toArray, List.set_cons_zero, List.set_cons_succ]
            refine wpAnyH_ready (rs := [11]) (by kernel_rfl) (by simp) ?_
            refine AllReadyH.cons rfl (fun K' hK => ?_) AllReadyH.nil
            go_simp
            refine (named_any pa _ pc _ 2 x.gate x.number w10 ho10.recs (blamesS_len (Nat.le_trans (mergeS_len _) (by rw [List.length_append]; show L.length + 1 ≤ _; omega)))).mono ?_
            rintro e w11 ⟨he, rfl⟩
            rw [show List.any (blamesS (goneOf []) 0 (L ++ [{ x with kind := 3, serial := ser }])) (namedP 2 x.gate x.number) = true from HFK.out] at he
            subst he
            go_simp
            refine hK.out _ _ (HKO.out _ hb10) (fun hHeld => ?_)
            clear hK K'
            try simp only [Act.put, List.setIfInBounds_toArray, List.set_cons_zero, List.set_cons_succ]
            refine take_at (i := 12) (v := ?_) 122 rfl rfl (by kernel_rfl) (by kernel_rfl) (by kernel_rfl) (fun _ _ _ h => h) (Or.inl ⟨by rfl, ?_⟩) (by assumption) ?_
            rotate_left
            · intro w hSw; go_simp <;> with_reducible rfl
            try simp only [Act.put, List.setIfInBounds_toArray, List.set_cons_zero, List.set_cons_succ]
            refine wpAnyH_done (by kernel_rfl) ?_ _
            go_wp2_with fail
            go_meet
            case rel => exact ⟨rfl, hb10⟩
        cases later
        · refine wp_region_held_drew (S := fun w' => w'.cell? ⟨gx, 0, none⟩ = some (.int .i64 x.gate) ∧ w'.cell? ⟨gx, 1, none⟩ = some (.int .i64 x.number) ∧ w'.cell? ⟨gx, 2, none⟩ = some (.int .i64 x.time) ∧ w'.cell? ⟨gx, 3, none⟩ = some (.int .i64 x.serial) ∧ w'.cell? ⟨gx, 4, none⟩ = some (.int .i64 x.kind) ∧ w'.cell? ⟨gx, 5, none⟩ = some (.string (bs x.owner))) (by kernel_rfl) (HKX7.out wr (Below.refl _ _)) (fun hHeld => ?_)
          refine take_at (i := 0) (v := ?_) 95 rfl rfl (by kernel_rfl) (by kernel_rfl) (by kernel_rfl) (fun _ _ _ h => h) (Or.inl ⟨by rfl, ?_⟩) (by assumption) ?_
          rotate_left
          · intro w hSw; go_simp <;> with_reducible rfl
          try simp only [Act.put, List.setIfInBounds_toArray, List.set_cons_zero, List.set_cons_succ]
          refine take_at (i := 1) (v := ?_) 96 rfl rfl (by kernel_rfl) (by kernel_rfl) (by kernel_rfl) (fun _ _ _ h => h) (Or.inl ⟨by rfl, ?_⟩) (by assumption) ?_
          rotate_left
          · intro w hSw; go_simp <;> with_reducible rfl
          try simp only [Act.put, List.setIfInBounds_toArray, List.set_cons_zero, List.set_cons_succ]
          refine take_at (i := 2) (v := undef) 97 rfl rfl (by kernel_rfl) (by kernel_rfl) (by kernel_rfl) (fun _ _ _ h => h) (Or.inr ⟨by rfl, rfl⟩) (by assumption) ?_
          try simp only [Act.put, List.setIfInBounds_toArray, List.set_cons_zero, List.set_cons_succ]
          refine take_at (i := 3) (v := undef) 98 rfl rfl (by kernel_rfl) (by kernel_rfl) (by kernel_rfl) (fun _ _ _ h => h) (Or.inr ⟨by rfl, rfl⟩) (by assumption) ?_
          try simp only [Act.put, List.setIfInBounds_toArray, List.set_cons_zero, List.set_cons_succ]
          refine take_at (i := 4) (v := undef) 99 rfl rfl (by kernel_rfl) (by kernel_rfl) (by kernel_rfl) (fun _ _ _ h => h) (Or.inr ⟨by rfl, rfl⟩) (by assumption) ?_
          try simp only [Act.put, List.setIfInBounds_toArray, List.set_cons_zero, List.set_cons_succ]
          refine take_at (i := 5) (v := undef) 100 rfl rfl (by kernel_rfl) (by kernel_rfl) (by kernel_rfl) (fun _ _ _ h => h) (Or.inr ⟨by rfl, rfl⟩) (by assumption) ?_
          try simp only [Act.put, List.setIfInBounds_toArray, List.set_cons_zero, List.set_cons_succ]
          refine take_at (i := 6) (v := undef) 101 rfl rfl (by kernel_rfl) (by kernel_rfl) (by kernel_rfl) (fun _ _ _ h => h) (Or.inr ⟨by rfl, rfl⟩) (by assumption) ?_
          try simp only [Act.put, List.setIfInBounds_toArray, List.set_cons_zero, List.set_cons_succ]
          refine take_at (i := 7) (v := undef) 102 rfl rfl (by kernel_rfl) (by kernel_rfl) (by kernel_rfl) (fun _ _ _ h => h) (Or.inr ⟨by rfl, rfl⟩) (by assumption) ?_
          try simp only [Act.put, List.setIfInBounds_toArray, List.set_cons_zero, List.set_cons_succ]
          refine take_at (i := 8) (v := undef) 103 rfl rfl (by kernel_rfl) (by kernel_rfl) (by kernel_rfl) (fun _ _ _ h => h) (Or.inr ⟨by rfl, rfl⟩) (by assumption) ?_
          try simp only [Act.put, List.setIfInBounds_toArray, List.set_cons_zero, List.set_cons_succ]
          refine take_at (i := 9) (v := undef) 104 rfl rfl (by kernel_rfl) (by kernel_rfl) (by kernel_rfl) (fun _ _ _ h => h) (Or.inr ⟨by rfl, rfl⟩) (by assumption) ?_
          try simp only [Act.put, List.setIfInBounds_toArray, List.set_cons_zero, List.set_cons_succ]
          refine take_at (i := 10) (v := ?_) 105 rfl rfl (by kernel_rfl) (by kernel_rfl) (by kernel_rfl) (fun _ _ _ h => h) (Or.inl ⟨by rfl, ?_⟩) (by assumption) ?_
          rotate_left
          · intro w hSw; go_simp <;> with_reducible rfl
          try simp only [Act.put, List.setIfInBounds_toArray, List.set_cons_zero, List.set_cons_succ]
          refine wpAnyH_done (by kernel_rfl) ?_ _
          go_wp2_with fail
          go_meet
          case rel => exact ⟨rfl, (Below.refl _ _).drew⟩
        · have HLT := Lib.hid (HLT.out rfl)
          refine wp_region_held_drew (S := fun w' => w'.cell? ⟨gx, 0, none⟩ = some (.int .i64 x.gate) ∧ w'.cell? ⟨gx, 1, none⟩ = some (.int .i64 x.number) ∧ w'.cell? ⟨gx, 2, none⟩ = some (.int .i64 x.time) ∧ w'.cell? ⟨gx, 3, none⟩ = some (.int .i64 x.serial) ∧ w'.cell? ⟨gx, 4, none⟩ = some (.int .i64 x.kind) ∧ w'.cell? ⟨gx, 5, none⟩ = some (.string (bs x.owner))) (by kernel_rfl) (HKX7.out wr (Below.refl _ _)) (fun hHeld => ?_)
          refine take_at (i := 0) (v := ?_) 95 rfl rfl (by kernel_rfl) (by kernel_rfl) (by kernel_rfl) (fun _ _ _ h => h) (Or.inl ⟨by rfl, ?_⟩) (by assumption) ?_
          rotate_left
          · intro w hSw; go_simp <;> with_reducible rfl
          try simp only [Act.put, List.setIfInBounds_toArray, List.set_cons_zero, List.set_cons_succ]
          refine take_at (i := 1) (v := ?_) 96 rfl rfl (by kernel_rfl) (by kernel_rfl) (by kernel_rfl) (fun _ _ _ h => h) (Or.inl ⟨by rfl, ?_⟩) (by assumption) ?_
          rotate_left
          · intro w hSw; go_simp <;> with_reducible rfl
          try simp only [Act.put, List.setIfInBounds_toArray, List.set_cons_zero, List.set_cons_succ]
          refine take_at (i := 2) (v := ?_) 97 rfl rfl (by kernel_rfl) (by kernel_rfl) (by kernel_rfl) (fun _ _ _ h => h) (Or.inl ⟨by rfl, ?_⟩) (by assumption) ?_
          rotate_left
          · intro w hSw; go_simp <;> with_reducible rfl
          try simp only [Act.put, List.setIfInBounds_toArray, List.set_cons_zero, List.set_cons_succ]
          refine take_at (i := 4) (v := ?_) 99 rfl rfl (by kernel_rfl) (by kernel_rfl) (by kernel_rfl) (fun _ _ _ h => h) (Or.inl ⟨by rfl, ?_⟩) (by assumption) ?_
          rotate_left
          · intro w hSw; go_simp <;> with_reducible rfl
          try simp only [Act.put, List.setIfInBounds_toArray, List.set_cons_zero, List.set_cons_succ]
          refine take_at (i := 5) (v := ?_) 100 rfl rfl (by kernel_rfl) (by kernel_rfl) (by kernel_rfl) (fun _ _ _ h => h) (Or.inl ⟨by rfl, ?_⟩) (by assumption) ?_
          rotate_left
          · intro w hSw; go_simp <;> with_reducible rfl
          try simp only [Act.put, List.setIfInBounds_toArray, List.set_cons_zero, List.set_cons_succ]
          refine take_at (i := 6) (v := ?_) 101 rfl rfl (by kernel_rfl) (by kernel_rfl) (by kernel_rfl) (fun _ _ _ h => h) (Or.inl ⟨by rfl, ?_⟩) (by assumption) ?_
          rotate_left
          · intro w hSw; go_simp <;> with_reducible rfl
          try simp only [Act.put, List.setIfInBounds_toArray, List.set_cons_zero, List.set_cons_succ]
          refine take_at (i := 7) (v := ?_) 102 rfl rfl (by kernel_rfl) (by kernel_rfl) (by kernel_rfl) (fun _ _ _ h => h) (Or.inl ⟨by rfl, ?_⟩) (by assumption) ?_
          rotate_left
          · intro w hSw; go_simp <;> with_reducible rfl
          try simp only [Act.put, List.setIfInBounds_toArray, List.set_cons_zero, List.set_cons_succ]
          refine wpAnyH_ready (rs := [3]) (by kernel_rfl) (by simp) ?_
          refine AllReadyH.cons rfl (fun K' hK => ?_) AllReadyH.nil
          go_simp
          refine (mblames_any wr.drew _ (L.take k ++ L.drop (k + 1)) none 0 0 [] 0 (HSL.out.below (Below.refl _ wr).drew) (by omega) (Nat.le_trans (mergeS_len _) (by omega)) (Recs.none _) (by decide) HLW.out).mono ?_
          rintro e w10 ⟨pa, pc, rfl, ho10, hbl10⟩
          have hb10 := (Below.refl _ wr).drew.trans hbl10
          go_simp
          refine hK.out _ _ (HKX7.out _ hb10) (fun hHeld => ?_)
          clear hK K'
          try simp only [Act.put, List.setIfInBounds_toArray, List.set_cons_zero, List.set_cons_succ]
          refine wpAnyH_ready (rs := [8]) (by kernel_rfl) (by simp) ?_
          refine AllReadyH.cons rfl (fun K' hK => ?_) AllReadyH.nil
          go_simp
          refine (named_any pa _ pc _ 3 x.gate x.number w10 ho10.recs (blamesS_len (Nat.le_trans (mergeS_len _) (by omega)))).mono ?_
          rintro e w11 ⟨he, rfl⟩
          rw [show List.any (blamesS (goneOf []) 0 (L.take k ++ L.drop (k + 1))) (namedP 3 x.gate x.number) = true from HLT.out] at he
          subst he
          go_simp
          refine hK.out _ _ (HKX7.out _ hb10) (fun hHeld => ?_)
          clear hK K'
          try simp only [Act.put, List.setIfInBounds_toArray, List.set_cons_zero, List.set_cons_succ]
          refine take_at (i := 9) (v := ?_) 104 rfl rfl (by kernel_rfl) (by kernel_rfl) (by kernel_rfl) (fun _ _ _ h => h) (Or.inl ⟨by rfl, ?_⟩) (by assumption) ?_
          rotate_left
          · intro w hSw; go_simp <;> with_reducible rfl
          try simp only [Act.put, List.setIfInBounds_toArray, List.set_cons_zero, List.set_cons_succ]
          refine take_at (i := 10) (v := ?_) 105 rfl rfl (by kernel_rfl) (by kernel_rfl) (by kernel_rfl) (fun _ _ _ h => h) (Or.inl ⟨by rfl, ?_⟩) (by assumption) ?_
          rotate_left
          · intro w hSw; go_simp <;> with_reducible rfl
          try simp only [Act.put, List.setIfInBounds_toArray, List.set_cons_zero, List.set_cons_succ]
          refine wpAnyH_done (by kernel_rfl) ?_ _
          go_wp2_with fail
          go_meet
          case rel => exact ⟨rfl, hb10⟩
  refine wp_region_held_drew (S := fun _ => True) (by kernel_rfl) trivial (fun hHeld => ?_)
  have hlt1 : (L.take k).length = k := by rw [List.length_take]; omega
  have hld1 : (L.drop (k + 1)).length = L.length - (k + 1) := List.length_drop ..
  have hl2 : 0 + (L.take k).length + (L.drop (k + 1)).length = L.length - 1 := by omega
  obtain ⟨A1, hA1⟩ : ∃ A1 : Option Addr, A1 = (if uc = k + 1 then some ⟨b1, 0, none⟩ else some ⟨b1, 0 + (k + 1) * 6, none⟩) := ⟨_, rfl⟩
  have HA1 := Lib.hid hA1
  have HA2 : Hid (A1 ≠ none) := by show _; rw [hA1]; split <;> exact fun e => by cases e
  clear hA1
  refine take_at (i := 1) (v := ?_) 39 rfl rfl (by kernel_rfl) (by kernel_rfl) (by kernel_rfl) (fun _ _ _ h => h) (Or.inl ⟨by rfl, ?_⟩) (by assumption) ?_
  rotate_left
  · intro w hSw; go_simp <;> with_reducible rfl
  try simp only [Act.put, List.setIfInBounds_toArray, List.set_cons_zero, List.set_cons_succ]
  refine take_at (i := 2) (v := ?_) 40 rfl rfl (by kernel_rfl) (by kernel_rfl) (by kernel_rfl) (fun _ _ _ h => h) (Or.inl ⟨by rfl, ?_⟩) (by assumption) ?_
  rotate_left
  · intro w hSw; go_simp <;> with_reducible rfl
  try simp only [Act.put, List.setIfInBounds_toArray, List.set_cons_zero, List.set_cons_succ]
  refine take_at (i := 3) (v := .slice (some ⟨b1, 0, none⟩) k uc) 41 rfl rfl (by kernel_rfl) (by kernel_rfl) (by kernel_rfl) (fun _ _ _ h => h) (Or.inl ⟨by rfl, ?_⟩) (by assumption) ?_
  · intro w' hSw
    go_simp
    try (intro hh; omega)
  try simp only [Act.put, List.setIfInBounds_toArray, List.set_cons_zero, List.set_cons_succ]
  refine take_at (i := 5) (v := ?_) 43 rfl rfl (by kernel_rfl) (by kernel_rfl) (by kernel_rfl) (fun _ _ _ h => h) (Or.inl ⟨by rfl, ?_⟩) (by assumption) ?_
  rotate_left
  · intro w hSw; go_simp <;> with_reducible rfl
  try simp only [Act.put, List.setIfInBounds_toArray, List.set_cons_zero, List.set_cons_succ]
  refine take_at (i := 6) (v := ?_) 44 rfl rfl (by kernel_rfl) (by kernel_rfl) (by kernel_rfl) (fun _ _ _ h => h) (Or.inl ⟨by rfl, ?_⟩) (by assumption) ?_
  rotate_left
  · intro w hSw; go_simp <;> with_reducible rfl
  try simp only [Act.put, List.setIfInBounds_toArray, List.set_cons_zero, List.set_cons_succ]
  refine take_at (i := 7) (v := .int .i64 ((k + 1 : Nat) : Int)) 45 rfl rfl (by kernel_rfl) (by kernel_rfl) (by kernel_rfl) (fun _ _ _ h => h) (Or.inl ⟨by rfl, ?_⟩) (by assumption) ?_
  · intro w' hSw
    go_simp
    exact i64_in _ (by omega)
  try simp only [Act.put, List.setIfInBounds_toArray, List.set_cons_zero, List.set_cons_succ]
  refine take_at (i := 8) (v := .slice A1 (L.length - (k + 1)) (uc - (k + 1))) 46 rfl rfl (by kernel_rfl) (by kernel_rfl) (by kernel_rfl) (fun _ _ _ h => h) (Or.inl ⟨by rfl, ?_⟩) (by assumption) ?_
  · intro w' hSw
    rw [HA1.out]
    go_simp
    intro hh
    exact absurd (hh (by omega)) (by omega)
  try simp only [Act.put, List.setIfInBounds_toArray, List.set_cons_zero, List.set_cons_succ]
  have hb6 : Below w5.heap.size w5 (w5.alloc (.cells #[] 39)).drew := (Joins.below_alloc1 w5 _).drew
  have hv6 : World.ownsRow (w5.alloc (.cells #[] 39)).drew w5.heap.size 39 6 (.slice (some ⟨w5.heap.size, 0, none⟩) 0 0) 0 (flat ScnE []) := ⟨rfl, Or.inr ⟨w5.heap.size, 0, #[], rfl, Nat.le_refl _, World.alloc_heap_new w5 _, Nat.le_refl _, by decide, rfl, rfl⟩⟩
  refine wpAnyH_ready (rs := [0]) (by kernel_rfl) (by simp) ?_
  refine AllReadyH.cons rfl (fun K' hK => ?_) AllReadyH.nil
  go_simp
  go_simp
  refine hK.out _ _ (trivial) (fun hHeld => ?_)
  clear hK K'
  try simp only [Act.put, List.setIfInBounds_toArray, List.set_cons_zero, List.set_cons_succ]
  generalize (w5.alloc (.cells #[] 39)).drew = w6 at *
  have hs6 : Scs w6 (.slice (some ⟨b1, 0, none⟩) k uc) (L.take k) := ⟨_, _, by rw [hlt1], by rw [hlt1]; exact recs_take (HR5.out.below hb6) k (by omega), fun e => by cases e⟩
  obtain ⟨v7, w7, hrun7, ho7, hg7, _⟩ := run_append_scs 22 hv6 hs6 (by omega) hb6.size
  have hb7 : Below w5.heap.size w5 w7 := hb6.grown hg7 hb6.size (fun b e => (hv6.lt b e).1)
  refine wpAnyH_ready (rs := [4]) (by kernel_rfl) (by simp) ?_
  refine AllReadyH.cons rfl (fun K' hK => ?_) AllReadyH.nil
  refine step_append_w (by rfl) (.tmp 38) (.tmp 41) 22 rfl 22 rfl hrun7 rfl rfl ?_
  go_simp
  refine hK.out _ _ (trivial) (fun hHeld => ?_)
  clear hK K'
  try simp only [Act.put, List.setIfInBounds_toArray, List.set_cons_zero, List.set_cons_succ]
  have hs7 : Scs w7 (.slice A1 (L.length - (k + 1)) (uc - (k + 1))) (L.drop (k + 1)) := ⟨_, _, by rw [hld1], by rw [hld1, HA1.out]; exact recs_rest (HR5.out.below hb7) (k + 1) (by omega) huc, fun e => absurd e HA2.out⟩
  obtain ⟨v8, w8, hrun8, ho8, hg8, _⟩ := run_append_scs 22 ho7 hs7 (by omega) hb7.size
  have hb8 : Below w5.heap.size w5 w8 := hb7.grown hg8 hb7.size (fun b e => (ho7.lt b e).1)
  rw [hl2] at ho8
  refine wpAnyH_ready (rs := [9]) (by kernel_rfl) (by simp) ?_
  refine AllReadyH.cons rfl (fun K' hK => ?_) AllReadyH.nil
  refine step_append_w (by rfl) (.tmp 42) (.tmp 46) 22 rfl 22 rfl hrun8 rfl rfl ?_
  go_simp
  refine hK.out _ _ (trivial) (fun hHeld => ?_)
  clear hK K'
  try simp only [Act.put, List.setIfInBounds_toArray, List.set_cons_zero, List.set_cons_succ]
  refine take_at (i := 10) (v := ?_) 11 rfl rfl (by kernel_rfl) (by kernel_rfl) (by kernel_rfl) (fun _ _ _ h => h) (Or.inl ⟨by rfl, ?_⟩) (by assumption) ?_
  rotate_left
  · intro w hSw; go_simp <;> with_reducible rfl
  try simp only [Act.put, List.setIfInBounds_toArray, List.set_cons_zero, List.set_cons_succ]
  refine wpAnyH_done (by kernel_rfl) ?_ _
  go_wp2_with fail
  go_meet
  case rel => exact ⟨ho8, hb8⟩
end Go.Proofs.Ytpmoelkblngamaa