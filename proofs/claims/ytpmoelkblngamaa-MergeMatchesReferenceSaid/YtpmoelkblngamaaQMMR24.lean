/- merge: by, ways: the walks. -/
import Derived.Test.YtpmoelkblngamaaQMMR19

namespace Go.Proofs.Ytpmoelkblngamaa
open Go.RowKit Go.IntWalk Go.Maps Go.WideMaps

/-- What by returns. -/
def ByPost (key : Scn → Int) (ok : Scn → Bool) (l : List Scn) (w : World) (e : Ending) (w' : World) : Prop :=
  ∃ M E, e = .returned (.map (some M)) ∧ w.heap.size ≤ M ∧ M < w.heap.size + 1 ∧ GrpAt w' (w.heap.size + 1) M E (grpS key ok l) ∧ Below w.heap.size w w' ∧ E.length ≤ l.length

theorem set_wide {key : Scn → Int} {ok : Scn → Bool} {l : List Scn} {i : Nat} (h : i < l.length) (h1 : ok l[i] = true) : (fun j => if j = key l[i] then grpS key ok (l.take i) (key l[i]) ++ [l[i]] else grpS key ok (l.take i) j) = grpS key ok (l.take (i + 1)) := by
  funext j
  rw [grp_next h]
  by_cases e : j = key l[i]
  · rw [if_pos e, if_pos ⟨h1, e.symm⟩, e]
  · rw [if_neg e, if_neg (fun h => e h.2.symm)]

set_option maxRecDepth 100000 in
set_option maxHeartbeats 3200000 in
theorem by_any (f : FuncId) (key : Scn → Int) (ok : Scn → Bool) (hk : KeyAt f key ok) (la : Option Addr) (n c : Nat) (l : List Scn) (w : World) (h : Recs ScnE w la n l) (hn : n ≤ 100000) (hwf : ∀ s ∈ l, (Lit.int .i64 (key s)).wf = true) :
    Calls Try.prog 34 #[.slice la n c, .func (.func f) #[] #[]] w (ByPost key ok l w) := by
  have HL := Lib.hid h
  have hlen := h.1
  have HWF := Lib.hid hwf
  have HK := Lib.hid hk.2
  have hent := hk.1
  clear h hwf hk
  have hmm := @run_makeMap Try.prog
  go_enter Try.func34, Try.ntmps34
  go_wp2_with fail
  go_loopw [13] (fun v13 wr => ∃ (i : Nat) (E : List EntT), v13 = .int .i64 i ∧ i ≤ n ∧ Hid (GrpAt wr (w.heap.size + 1) w.heap.size E (grpS key ok (l.take i))) ∧ Hid (Below w.heap.size w wr) ∧ w.heap.size + 1 ≤ wr.heap.size ∧ E.length ≤ i) (fun v13 _ => n - (intOf v13).toNat)
  case atStart =>
    refine ⟨0, [], rfl, Nat.zero_le _, ⟨List.Pairwise.nil, World.ownsMap_made _ _ _ _, fun k => ?_, fun k v hk => (by cases hk), fun k v _ _ hk => (by cases hk)⟩, Joins.below_alloc1 _ _, by simp, Nat.le_refl _⟩
    simp [lookV, grpS]
  case round =>
    clear hmm
    obtain ⟨i, E, rfl, hi, HG, HB, hsz, hEi⟩ := hrel
    by_cases hlt : i < n
    · have hiE : i < l.length := by omega
      obtain ⟨b, o, rfl, c0, c1, c2, c3, c4, c5⟩ := scn_at (HL.out.below HB.out) i hlt hiE
      have hkw := HWF.out _ (List.getElem_mem hiE)
      have HSW := Lib.hid (fun (h1 : ok l[i] = true) => set_wide (key := key) hiE h1)
      have HSN : Hid (ok l[i] = false → grpS key ok (l.take (i + 1)) = grpS key ok (l.take i)) := fun h1 => by
        funext j
        rw [grp_next hiE, if_neg (fun h => by rw [h1] at h; cases h.1)]
      have HKW := Lib.hid hkw
      clear hkw
      generalize l[i] = s at *
      clear hiE
      go_upto_region 5 with fail
      have HG1 := Lib.hid (HG.out.below (Joins.below_alloc1 wr (.cells #[.int .i64 s.gate, .int .i64 s.number, .int .i64 s.time, .int .i64 s.serial, .int .i64 s.kind, .string (bs s.owner)] 39)))
      have HB1 : Hid (Below w.heap.size w (wr.alloc (.cells #[.int .i64 s.gate, .int .i64 s.number, .int .i64 s.time, .int .i64 s.serial, .int .i64 s.kind, .string (bs s.owner)] 39))) := HB.out.trans ((Joins.below_alloc1 wr _).mono HB.out.size)
      have HX : Hid ((wr.alloc (.cells #[.int .i64 s.gate, .int .i64 s.number, .int .i64 s.time, .int .i64 s.serial, .int .i64 s.kind, .string (bs s.owner)] 39)).heap[wr.heap.size]? = some (.cells #[.int .i64 s.gate, .int .i64 s.number, .int .i64 s.time, .int .i64 s.serial, .int .i64 s.kind, .string (bs s.owner)] 39 (0, 0))) := World.alloc_heap_new wr _
      have hs1 : wr.heap.size ≤ (wr.alloc (.cells #[.int .i64 s.gate, .int .i64 s.number, .int .i64 s.time, .int .i64 s.serial, .int .i64 s.kind, .string (bs s.owner)] 39)).heap.size := by simp
      generalize wr.alloc (.cells #[.int .i64 s.gate, .int .i64 s.number, .int .i64 s.time, .int .i64 s.serial, .int .i64 s.kind, .string (bs s.owner)] 39) = w1 at *
      have x0 : w1.cell? ⟨wr.heap.size, 0, none⟩ = some (.int .i64 s.gate) := cell_of_row (j := 0) _ _ _ _ _ HX.out
      have x1 : w1.cell? ⟨wr.heap.size, 1, none⟩ = some (.int .i64 s.number) := cell_of_row (j := 1) _ _ _ _ _ HX.out
      have x2 : w1.cell? ⟨wr.heap.size, 2, none⟩ = some (.int .i64 s.time) := cell_of_row (j := 2) _ _ _ _ _ HX.out
      have x3 : w1.cell? ⟨wr.heap.size, 3, none⟩ = some (.int .i64 s.serial) := cell_of_row (j := 3) _ _ _ _ _ HX.out
      have x4 : w1.cell? ⟨wr.heap.size, 4, none⟩ = some (.int .i64 s.kind) := cell_of_row (j := 4) _ _ _ _ _ HX.out
      have x5 : w1.cell? ⟨wr.heap.size, 5, none⟩ = some (.string (bs s.owner)) := cell_of_row (j := 5) _ _ _ _ _ HX.out
      clear c0 c1 c2 c3 c4 c5 HG HB
      go_wp2_with fail
      refine (HK.out s w1).mono ?_
      rintro e w2 ⟨rfl, hb⟩
      have HG2 := Lib.hid (HG1.out.below hb)
      have HB2 : Hid (Below w.heap.size w w2) := HB1.out.trans (hb.mono HB1.out.size)
      have HX2 : Hid (w2.heap[wr.heap.size]? = some (.cells #[.int .i64 s.gate, .int .i64 s.number, .int .i64 s.time, .int .i64 s.serial, .int .i64 s.kind, .string (bs s.owner)] 39 (0, 0))) := (hb.block _ (lt_of_block HX.out)).trans HX.out
      have hs2 := hb.size
      clear hb x0 x1 x2 x3 x4 x5 HX HG1 HB1
      obtain ⟨k, hkk⟩ : ∃ k, key s = k := ⟨_, rfl⟩
      have HKK := Lib.hid hkk
      rw [hkk] at HKW HSW ⊢
      clear hkk
      cases hok : ok s
      · have HSE := Lib.hid (HSN.out hok)
        clear HSW HSN
        go_wp2_with fail
        go_roundw
        case rel => exact ⟨i + 1, E, by go_num, hlt, by rw [HSE.out]; exact HG2, HB2, by omega, by omega⟩
        case measure => simp [intOf]; omega
      · have HSE := Lib.hid (HSW.out hok)
        clear HSW HSN hok
        have x0 : w2.cell? ⟨wr.heap.size, 0, none⟩ = some (.int .i64 s.gate) := cell_of_row (j := 0) _ _ _ _ _ HX2.out
        have x1 : w2.cell? ⟨wr.heap.size, 1, none⟩ = some (.int .i64 s.number) := cell_of_row (j := 1) _ _ _ _ _ HX2.out
        have x2 : w2.cell? ⟨wr.heap.size, 2, none⟩ = some (.int .i64 s.time) := cell_of_row (j := 2) _ _ _ _ _ HX2.out
        have x3 : w2.cell? ⟨wr.heap.size, 3, none⟩ = some (.int .i64 s.serial) := cell_of_row (j := 3) _ _ _ _ _ HX2.out
        have x4 : w2.cell? ⟨wr.heap.size, 4, none⟩ = some (.int .i64 s.kind) := cell_of_row (j := 4) _ _ _ _ _ HX2.out
        have x5 : w2.cell? ⟨wr.heap.size, 5, none⟩ = some (.string (bs s.owner)) := cell_of_row (j := 5) _ _ _ _ _ HX2.out
        have hrun := lookV_no (tm := 72) Try.underlying72 (slice_zero w2) HG2.out.map HKW.out
        have HB3 := Lib.hid (Joins.below_alloc1 w2 (.cells #[.int .i64 s.gate, .int .i64 s.number, .int .i64 s.time, .int .i64 s.serial, .int .i64 s.kind, .string (bs s.owner)] 39))
        have HG3 := Lib.hid (HG2.out.below HB3.out)
        have HS3 := Lib.hid (scs_one (s := s) (World.alloc_heap_new w2 _))
        have HR3 := Lib.hid (HG3.out.row k)
        have hgl : (grpS key ok (l.take i) k).length ≤ n := by
          have h1 : (grpS key ok (l.take i) k).length ≤ (l.take i).length := List.length_filter_le _ _
          rw [List.length_take] at h1
          omega
        have HBX : Hid (w.heap.size + 1 ≤ (w2.alloc (.cells #[.int .i64 s.gate, .int .i64 s.number, .int .i64 s.time, .int .i64 s.serial, .int .i64 s.kind, .string (bs s.owner)] 39)).heap.size) := by show _ ≤ _; have := HB3.out.size; omega
        go_wp2_with (first
          | (at_builtin; refine wpList_append_scs rfl (.tmp 28) (.tmp 30) rfl rfl rfl HR3.out HS3.out (by simp; omega) HBX.out ?_; intro v' w4 ho4 hg4 hv4; have HO4 := Lib.hid ho4; have HG4 := Lib.hid hg4; have HV4 := Lib.hid hv4; clear ho4 hg4 hv4)
          | (at_mapUpdate; refine wpList_mapUpdate_own _ rfl _ _ _ 72 rfl 3 22 lawI Try.underlying72 RV w.heap.size E.length (mapV E) rfl (HG3.out.map_keep k HG4.out) (by unfold maxLen; omega) _ _ _ rfl rfl (keyOf_int_mk Try.underlying3 HKW.out) (.held v') [] rfl ?_; intro w5 hown5 hgrow5; have HM5 := Lib.hid hown5; have HG5 := Lib.hid hgrow5; clear hown5 hgrow5))
        have HP := Lib.hid (HG3.out.put k s HO4.out HG4.out HV4.out HM5.out HG5.out)
        rw [HSE.out] at HP
        have HB5 : Hid (Below w.heap.size w w5) := by
          have hb3 : Below w.heap.size w (w2.alloc (.cells #[.int .i64 s.gate, .int .i64 s.number, .int .i64 s.time, .int .i64 s.serial, .int .i64 s.kind, .string (bs s.owner)] 39)) := HB2.out.trans (HB3.out.mono HB2.out.size)
          have hb4 := hb3.grown HG4.out hb3.size (fun r hr => by have := (HR3.out.lt r hr).1; omega)
          exact hb4.grown HG5.out hb4.size (fun r hr => by cases hr; exact Nat.le_refl _)
        have hs5 : w.heap.size + 1 ≤ w5.heap.size := by have := HG4.out.size; have := HG5.out.size; have := HBX.out; omega
        have hpl := putV_len E k v'
        go_roundw
        case rel => exact ⟨i + 1, _, by go_num, hlt, HP, HB5, hs5, by omega⟩
        case measure => simp [intOf]; omega
    · have hi' : i = n := by omega
      subst hi'
      rw [List.take_of_length_le (by omega)] at HG
      go_wp2_with fail
      go_ret
      exact ⟨_, E, rfl, Nat.le_refl _, Nat.lt_succ_self _, HG.out, HB.out, by omega⟩

theorem key_gate : KeyAt 35 (fun s => s.gate) (fun _ => true) := by
  refine ⟨enters_of Try.func35 (by kernel_rfl) rfl, fun s w => ?_⟩
  have HB := Lib.hid (Joins.below_alloc1 w (.cells #[.int .i64 s.gate, .int .i64 s.number, .int .i64 s.time, .int .i64 s.serial, .int .i64 s.kind, .string (bs s.owner)] 39))
  have HX : Hid ((w.alloc (.cells #[.int .i64 s.gate, .int .i64 s.number, .int .i64 s.time, .int .i64 s.serial, .int .i64 s.kind, .string (bs s.owner)] 39)).heap[w.heap.size]? = some (.cells #[.int .i64 s.gate, .int .i64 s.number, .int .i64 s.time, .int .i64 s.serial, .int .i64 s.kind, .string (bs s.owner)] 39 (0, 0))) := World.alloc_heap_new w _
  go_enter Try.func35, Try.ntmps35
  go_upto_region 1 with fail
  generalize w.alloc (.cells #[.int .i64 s.gate, .int .i64 s.number, .int .i64 s.time, .int .i64 s.serial, .int .i64 s.kind, .string (bs s.owner)] 39) = w1 at *
  have x0 : w1.cell? ⟨w.heap.size, 0, none⟩ = some (.int .i64 s.gate) := cell_of_row (j := 0) _ _ _ _ _ HX.out
  go_wp2_with fail
  go_ret2
  exact ⟨rfl, HB.out⟩

theorem key_way : KeyAt 54 (fun s => s.serial) wayB := by
  refine ⟨enters_of Try.func54 (by kernel_rfl) rfl, fun s w => ?_⟩
  have HB := Lib.hid (Joins.below_alloc1 w (.cells #[.int .i64 s.gate, .int .i64 s.number, .int .i64 s.time, .int .i64 s.serial, .int .i64 s.kind, .string (bs s.owner)] 39))
  have HX : Hid ((w.alloc (.cells #[.int .i64 s.gate, .int .i64 s.number, .int .i64 s.time, .int .i64 s.serial, .int .i64 s.kind, .string (bs s.owner)] 39)).heap[w.heap.size]? = some (.cells #[.int .i64 s.gate, .int .i64 s.number, .int .i64 s.time, .int .i64 s.serial, .int .i64 s.kind, .string (bs s.owner)] 39 (0, 0))) := World.alloc_heap_new w _
  have HW : Hid (wayB s = (decide (s.kind = 1) || decide (s.kind = 2))) := rfl
  go_enter Try.func54, Try.ntmps54
  go_upto_region 1 with fail
  generalize w.alloc (.cells #[.int .i64 s.gate, .int .i64 s.number, .int .i64 s.time, .int .i64 s.serial, .int .i64 s.kind, .string (bs s.owner)] 39) = w1 at *
  have x3 : w1.cell? ⟨w.heap.size, 3, none⟩ = some (.int .i64 s.serial) := cell_of_row (j := 3) _ _ _ _ _ HX.out
  have x4 : w1.cell? ⟨w.heap.size, 4, none⟩ = some (.int .i64 s.kind) := cell_of_row (j := 4) _ _ _ _ _ HX.out
  by_cases h1 : s.kind = 1
  · have hb1 : (s.kind == 1) = true := by simp [h1]
    have HR : Hid (wayB s = true) := by show _ = _; rw [HW.out]; simp [h1]
    clear h1
    go_region
    go_wp2_with fail
    go_ret2
    exact ⟨by rw [HR.out]; rfl, HB.out.drew⟩
  · have hb1 : (s.kind == 1) = false := by simp [h1]
    by_cases h2 : s.kind = 2
    · have hb2 : (s.kind == 2) = true := by simp [h2]
      have HR : Hid (wayB s = true) := by show _ = _; rw [HW.out]; simp [h2]
      clear h1 h2
      go_region
      go_wp2_with fail
      go_ret2
      exact ⟨by rw [HR.out]; rfl, HB.out.drew⟩
    · have hb2 : (s.kind == 2) = false := by simp [h2]
      have HR : Hid (wayB s = false) := by show _ = _; rw [HW.out]; simp [h1, h2]
      clear h1 h2
      go_region
      go_wp2_with fail
      go_ret2
      exact ⟨by rw [HR.out]; rfl, HB.out.drew⟩

theorem grp_gate (l : List Scn) : grpS (fun s => s.gate) (fun _ => true) l = gateL l := by
  funext k
  unfold grpS gateL
  simp
theorem grp_way (l : List Scn) : grpS (fun s => s.serial) wayB l = wayL l := rfl

/-- What a map of groups of l is. -/
def MapPost (G : Int → List Scn) (n : Nat) (w : World) (e : Ending) (w' : World) : Prop :=
  ∃ M E, e = .returned (.map (some M)) ∧ w.heap.size ≤ M ∧ M < w.heap.size + 1 ∧ GrpAt w' (w.heap.size + 1) M E G ∧ Below w.heap.size w w' ∧ E.length ≤ n

theorem by_gate (la : Option Addr) (n c : Nat) (l : List Scn) (w : World) (h : Recs ScnE w la n l) (hn : n ≤ 100000) (hwf : ∀ s ∈ l, WfS s) :
    Calls Try.prog 34 #[.slice la n c, .func (.func 35) #[] #[]] w (MapPost (gateL l) l.length w) := by
  refine (by_any _ _ _ key_gate la n c l w h hn (fun s hs => (hwf s hs).1)).mono ?_
  rintro e w' ⟨M, E, he, h1, h2, h3, h4, h5⟩
  rw [grp_gate] at h3
  exact ⟨M, E, he, h1, h2, h3, h4, h5⟩

theorem ways_any (la : Option Addr) (n c : Nat) (l : List Scn) (w : World) (h : Recs ScnE w la n l) (hn : n ≤ 100000) (hwf : ∀ s ∈ l, WfS s) :
    Calls Try.prog 38 #[.slice la n c] w (MapPost (wayL l) l.length w) := by
  have HC := Lib.hid (by_any _ _ _ key_way la n c l w h hn (fun s hs => (hwf s hs).2.2.2.1))
  clear h
  go_enter Try.func38, Try.ntmps38
  go_wp2_with fail
  refine HC.out.mono ?_
  rintro e w' ⟨M, E, rfl, h1, h2, h3, h4⟩
  have H := Lib.hid (And.intro h1 (And.intro h2 (And.intro h3 h4)))
  clear h1 h2 h3 h4 HC
  go_wp2_with fail
  go_ret
  exact ⟨M, E, rfl, H.out⟩
end Go.Proofs.Ytpmoelkblngamaa
