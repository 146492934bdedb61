/- merge: gate: the walk. -/
import Derived.Test.YtpmoelkblngamaaQMMR26

namespace Go.Proofs.Ytpmoelkblngamaa
open Go.RowKit Go.IntWalk Go.Maps Go.WideMaps

/-- What gate leaves. -/
def GatePost (bb : Nat) (bl : List Blm) (w : World) (e : Ending) (w' : World) : Prop := e = .returned (.tuple #[]) ∧ BAt w' bb bl ∧ UpdB bb w w'

set_option maxRecDepth 100000 in
set_option maxHeartbeats 6400000 in
theorem gate_any (w : World) (g n c bb : Nat) (l : List Scn) (bl : List Blm) (gt : Int) (hr : RecRow ScnE w g 39 l) (hl : l.length = n) (hn1 : 1 ≤ n) (hn : n ≤ 1000) (hg : ∀ s ∈ l, s.gate = gt) (hwf : ∀ s ∈ l, WfS s) (hb : BAt w bb bl) (hbl : bl.length ≤ 500000) :
    Calls Try.prog 36 #[.slice (some ⟨g, 0, none⟩) n c, .func (.func 37) #[.pointer (some ⟨bb, 0, none⟩)] #[]] w (GatePost bb (bl ++ gateF l gt (numsS l)) w) := by
  have HR := Lib.hid hr
  have HL := Lib.hid hl
  have HGT := Lib.hid hg
  have HWF := Lib.hid hwf
  have HB0 := Lib.hid (hb.below (Joins.below_alloc1 w (.map #[] 0)))
  have HU0 : Hid (UpdB bb w (w.alloc (.map #[] 0))) := UpdB.of_below (Joins.below_alloc1 w _)
  have hmm := @run_makeMap Try.prog
  have hent := enter_blame
  clear hr hl hg hwf hb
  go_enter Try.func36, Try.ntmps36
  go_wp2_with fail
  go_loopw [5, 20] (fun v5 v20 wr => ∃ (i : Nat) (E : List EntT), v20 = .int .i64 i ∧ i ≤ n ∧ Hid (NumAt wr w.heap.size E (firstL (l.take i))) ∧ Hid (IntsO wr (w.heap.size + 1) v5 ((firstL (l.take i)).map (·.number))) ∧ Hid (BAt wr bb (bl ++ forkF (l.take i))) ∧ Hid (UpdB bb w wr) ∧ w.heap.size + 1 ≤ wr.heap.size) (fun _ v20 _ => n - (intOf v20).toNat)
  case atStart =>
    refine ⟨0, [], rfl, Nat.zero_le _, ⟨List.Pairwise.nil, World.ownsMap_made _ _ _ _, fun k => rfl, Nat.zero_le _⟩, ⟨rfl, Or.inl ⟨rfl, rfl⟩⟩, ?_, HU0.out, by simp⟩
    show BAt _ _ _
    rw [show forkF (l.take 0) = [] from rfl, List.append_nil]
    exact HB0.out
  case round =>
    clear hmm HB0 HU0
    obtain ⟨i, E, rfl, hi, HN, HI, HB, HU, hsz⟩ := hrel
    by_cases hlt : i < n
    · have hiE : i < l.length := by rw [HL.out]; exact hlt
      obtain ⟨c0, c1, c2, c3, c4, c5⟩ := scn_cells (HR.out.updB HU.out) i (i * 6) rfl (List.getElem?_eq_getElem hiE)
      have HW := Lib.hid (HWF.out _ (List.getElem_mem hiE))
      have HFT := Lib.hid (first_take hiE)
      have HKT := Lib.hid (fork_take hiE)
      have HFL := Lib.hid (Nat.le_trans (first_len (l.take i)) (List.length_take_le _ _))
      have HKL := Lib.hid (Nat.le_trans (fork_len (l.take i)) (List.length_take_le _ _))
      generalize l[i] = s at *
      clear hiE
      go_upto_region 5 with fail
      have HA1 := Lib.hid (Joins.below_alloc1 wr (.cells #[.int .i64 s.gate, .int .i64 s.number, .int .i64 s.time, .int .i64 s.serial, .int .i64 s.kind, .string (bs s.owner)] 39))
      have HX : Hid ((wr.alloc (.cells #[.int .i64 s.gate, .int .i64 s.number, .int .i64 s.time, .int .i64 s.serial, .int .i64 s.kind, .string (bs s.owner)] 39)).heap[wr.heap.size]? = some (.cells #[.int .i64 s.gate, .int .i64 s.number, .int .i64 s.time, .int .i64 s.serial, .int .i64 s.kind, .string (bs s.owner)] 39 (0, 0))) := World.alloc_heap_new wr _
      have hs1 : wr.heap.size + 1 = (wr.alloc (.cells #[.int .i64 s.gate, .int .i64 s.number, .int .i64 s.time, .int .i64 s.serial, .int .i64 s.kind, .string (bs s.owner)] 39)).heap.size := by simp
      generalize (wr.alloc (.cells #[.int .i64 s.gate, .int .i64 s.number, .int .i64 s.time, .int .i64 s.serial, .int .i64 s.kind, .string (bs s.owner)] 39)) = w1 at *
      have x0 : w1.cell? ⟨wr.heap.size, 0, none⟩ = some (.int .i64 s.gate) := cell_of_row (j := 0) _ _ _ _ _ HX.out
      have x1 : w1.cell? ⟨wr.heap.size, 1, none⟩ = some (.int .i64 s.number) := cell_of_row (j := 1) _ _ _ _ _ HX.out
      have x2 : w1.cell? ⟨wr.heap.size, 2, none⟩ = some (.int .i64 s.time) := cell_of_row (j := 2) _ _ _ _ _ HX.out
      have x3 : w1.cell? ⟨wr.heap.size, 3, none⟩ = some (.int .i64 s.serial) := cell_of_row (j := 3) _ _ _ _ _ HX.out
      have x4 : w1.cell? ⟨wr.heap.size, 4, none⟩ = some (.int .i64 s.kind) := cell_of_row (j := 4) _ _ _ _ _ HX.out
      have x5 : w1.cell? ⟨wr.heap.size, 5, none⟩ = some (.string (bs s.owner)) := cell_of_row (j := 5) _ _ _ _ _ HX.out
      have HN1 := Lib.hid (HN.out.below HA1.out)
      clear c0 c1 c2 c3 c4 c5
      cases hs : seenB (firstL (l.take i)) s.number
      · have hrun : (Instr.lookup 96 (.map (some w.heap.size)) (.int .i64 s.number) true).run Try.prog w1 = .ok (.tuple #[.agg #[.int .i64 0, .int .i64 0, .int .i64 0, .int .i64 0, .int .i64 0, .string (bs [])], .bool false]) w1 := by
          rw [lookV_ok Try.underlying96 (scan_zero w1) HN1.out.map HW.out.2.1, HN1.out.no hs]
          rfl
        have HF2 : Hid (firstL (l.take (i + 1)) = firstL (l.take i) ++ [s]) := by show _ = _; rw [HFT.out, hs]; rfl
        have HK2 : Hid (forkF (l.take (i + 1)) = forkF (l.take i)) := by show _ = _; rw [HKT.out, hs]; rfl
        have HS := Lib.hid hs
        clear HFT HKT hs
        go_upto_region 6 with fail
        have HA2 := Lib.hid (Joins.below_alloc1 w1 (.cells #[.int .i64 0, .int .i64 0, .int .i64 0, .int .i64 0, .int .i64 0, .string (bs [])] 39))
        have hs2 : w1.heap.size + 1 = (w1.alloc (.cells #[.int .i64 0, .int .i64 0, .int .i64 0, .int .i64 0, .int .i64 0, .string (bs [])] 39)).heap.size := by simp
        have HX2 : Hid ((w1.alloc (.cells #[.int .i64 0, .int .i64 0, .int .i64 0, .int .i64 0, .int .i64 0, .string (bs [])] 39)).heap[wr.heap.size]? = some (.cells #[.int .i64 s.gate, .int .i64 s.number, .int .i64 s.time, .int .i64 s.serial, .int .i64 s.kind, .string (bs s.owner)] 39 (0, 0))) := (HA2.out.block _ (by omega)).trans HX.out
        clear x0 x1 x2 x3 x4 x5 hrun
        generalize w1.alloc (.cells #[.int .i64 0, .int .i64 0, .int .i64 0, .int .i64 0, .int .i64 0, .string (bs [])] 39) = w2 at *
        have x0 : w2.cell? ⟨wr.heap.size, 0, none⟩ = some (.int .i64 s.gate) := cell_of_row (j := 0) _ _ _ _ _ HX2.out
        have x1 : w2.cell? ⟨wr.heap.size, 1, none⟩ = some (.int .i64 s.number) := cell_of_row (j := 1) _ _ _ _ _ HX2.out
        have x2 : w2.cell? ⟨wr.heap.size, 2, none⟩ = some (.int .i64 s.time) := cell_of_row (j := 2) _ _ _ _ _ HX2.out
        have x3 : w2.cell? ⟨wr.heap.size, 3, none⟩ = some (.int .i64 s.serial) := cell_of_row (j := 3) _ _ _ _ _ HX2.out
        have x4 : w2.cell? ⟨wr.heap.size, 4, none⟩ = some (.int .i64 s.kind) := cell_of_row (j := 4) _ _ _ _ _ HX2.out
        have x5 : w2.cell? ⟨wr.heap.size, 5, none⟩ = some (.string (bs s.owner)) := cell_of_row (j := 5) _ _ _ _ _ HX2.out
        have HB2 := Lib.hid ((HB.out.below HA1.out).below HA2.out)
        have HU2 := Lib.hid ((HU.out.next HA1.out).next HA2.out)
        have HI2 := Lib.hid ((HI.out.below HA1.out).below HA2.out)
        have HN2 := Lib.hid (HN1.out.below HA2.out)
        have hEl : E.length < maxLen := by have := HN2.out.len; have := HFL.out; unfold maxLen; omega
        go_upto_region 9 with (at_mapUpdate; refine wpList_mapUpdate_own _ rfl _ _ _ 96 rfl 3 39 lawI Try.underlying96 RV w.heap.size E.length (mapV E) rfl HN2.out.map hEl _ _ _ rfl rfl (keyOf_int_mk Try.underlying3 HW.out.2.1) (.held (scnV s)) [] rfl ?_; intro w3 hown3 hgrow3; have HM3 := Lib.hid hown3; have HG3 := Lib.hid hgrow3; clear hown3 hgrow3)
        have HX3 : Hid (w3.heap[wr.heap.size]? = some (.cells #[.int .i64 s.gate, .int .i64 s.number, .int .i64 s.time, .int .i64 s.serial, .int .i64 s.kind, .string (bs s.owner)] 39 (0, 0))) := (HG3.out.block _ (by omega) (fun e => by have := Option.some.inj e; omega)).trans HX2.out
        have HN3 := Lib.hid (HN2.out.put s HS.out HM3.out)
        have HB3 : Hid (BAt w3 bb (bl ++ forkF (l.take i))) := let ⟨_, _, e⟩ := ownsMap_blk HN2.out.map; HB2.out.mapB HG3.out e
        have HU3 : Hid (UpdB bb w w3) := HU2.out.grown HG3.out (fun b e => by cases e; exact Nat.le_refl _)
        have HI3 : Hid (IntsO w3 (w.heap.size + 1) u5 ((firstL (l.take i)).map (·.number))) := row_of_heap HI2.out fun r hr => HG3.out.block r (World.ownsRow.lt HI2.out r hr).2 (fun e => by have := Option.some.inj e; have := (HI2.out.blk hr).1; omega)
        have hs3 := HG3.out.size
        clear x0 x1 x2 x3 x4 x5 HX HX2 HN HN1 HN2 HB HB2 HU HU2 HI HI2 HM3
        have x0 : w3.cell? ⟨wr.heap.size, 0, none⟩ = some (.int .i64 s.gate) := cell_of_row (j := 0) _ _ _ _ _ HX3.out
        have x1 : w3.cell? ⟨wr.heap.size, 1, none⟩ = some (.int .i64 s.number) := cell_of_row (j := 1) _ _ _ _ _ HX3.out
        have x2 : w3.cell? ⟨wr.heap.size, 2, none⟩ = some (.int .i64 s.time) := cell_of_row (j := 2) _ _ _ _ _ HX3.out
        have x3 : w3.cell? ⟨wr.heap.size, 3, none⟩ = some (.int .i64 s.serial) := cell_of_row (j := 3) _ _ _ _ _ HX3.out
        have x4 : w3.cell? ⟨wr.heap.size, 4, none⟩ = some (.int .i64 s.kind) := cell_of_row (j := 4) _ _ _ _ _ HX3.out
        have x5 : w3.cell? ⟨wr.heap.size, 5, none⟩ = some (.string (bs s.owner)) := cell_of_row (j := 5) _ _ _ _ _ HX3.out
        have HA4 := Lib.hid (Joins.below_alloc1 w3 (.cells #[.int .i64 s.number] 3))
        have hs4 : w3.heap.size + 1 = (w3.alloc (.cells #[.int .i64 s.number] 3)).heap.size := by simp
        have HI4 := Lib.hid (HI3.out.below HA4.out)
        have hll : ((firstL (l.take i)).map (·.number)).length ≤ 1000000 := by rw [List.length_map]; have := HFL.out; omega
        have HLL := Lib.hid hll
        have hbs : w.heap.size + 1 ≤ (w3.alloc (.cells #[.int .i64 s.number] 3)).heap.size := by omega
        have HBS := Lib.hid hbs
        clear hll hbs
        go_wp2_with (at_builtin; refine wpList_append_int rfl (.tmp 43) (.tmp 46) rfl rfl rfl HI4.out (World.alloc_heap_new w3 _) HLL.out HBS.out ?_; intro v' w5 ho5 hg5 _; have HO5 := Lib.hid ho5; have HG5 := Lib.hid hg5; clear ho5 hg5)
        have HN5 : Hid (NumAt w5 w.heap.size (putV E s.number (scnV s)) (firstL (l.take i) ++ [s])) := by
          obtain ⟨_, _, e⟩ := ownsMap_blk HN3.out.map
          have h4 := HN3.out.below HA4.out
          exact h4.heap (HG5.out.block _ (by omega) (fun e => by have := (HI4.out.blk e.symm).1; omega))
        have HB5 : Hid (BAt w5 bb (bl ++ forkF (l.take i))) := (HB3.out.below HA4.out).int HG5.out (fun b e => (HI4.out.blk e).2)
        have HU5 : Hid (UpdB bb w w5) := (HU3.out.next HA4.out).grown HG5.out (fun b e => by have := (HI4.out.blk e).1; omega)
        have HI5 : Hid (IntsO w5 (w.heap.size + 1) v' ((firstL (l.take i) ++ [s]).map (·.number))) := by
          show World.ownsRow _ _ _ _ _ _ _
          rw [List.map_append, List.length_append]
          exact HO5.out
        have hs5 := HG5.out.size
        go_roundw
        case rel => exact ⟨i + 1, _, by go_num, hlt, by rw [HF2.out]; exact HN5, by rw [HF2.out]; exact HI5, by rw [HK2.out]; exact HB5, HU5, by omega⟩
        case measure => simp [intOf]; omega
      · have hrun : (Instr.lookup 96 (.map (some w.heap.size)) (.int .i64 s.number) true).run Try.prog w1 = .ok (.tuple #[.agg #[.int .i64 (numOf (firstL (l.take i)) s.number).gate, .int .i64 (numOf (firstL (l.take i)) s.number).number, .int .i64 (numOf (firstL (l.take i)) s.number).time, .int .i64 (numOf (firstL (l.take i)) s.number).serial, .int .i64 (numOf (firstL (l.take i)) s.number).kind, .string (bs (numOf (firstL (l.take i)) s.number).owner)], .bool true]) w1 := by
          rw [lookV_ok Try.underlying96 (scan_zero w1) HN1.out.map HW.out.2.1, HN1.out.yes hs]
          rfl
        have HF2 : Hid (firstL (l.take (i + 1)) = firstL (l.take i)) := by show _ = _; rw [HFT.out, hs]; rfl
        have HK2 : Hid (bl ++ forkF (l.take (i + 1)) = bl ++ forkF (l.take i) ++ [⟨2, s.serial, s.gate, s.number, s.gate, s.number⟩]) := by show _ = _; rw [HKT.out, hs, List.append_assoc]; rfl
        clear HFT HKT hs
        generalize numOf (firstL (l.take i)) s.number = t at *
        go_upto_region 6 with fail
        have HA2 := Lib.hid (Joins.below_alloc1 w1 (.cells #[.int .i64 t.gate, .int .i64 t.number, .int .i64 t.time, .int .i64 t.serial, .int .i64 t.kind, .string (bs t.owner)] 39))
        have hs2 : w1.heap.size + 1 = (w1.alloc (.cells #[.int .i64 t.gate, .int .i64 t.number, .int .i64 t.time, .int .i64 t.serial, .int .i64 t.kind, .string (bs t.owner)] 39)).heap.size := by simp
        have HX2 : Hid ((w1.alloc (.cells #[.int .i64 t.gate, .int .i64 t.number, .int .i64 t.time, .int .i64 t.serial, .int .i64 t.kind, .string (bs t.owner)] 39)).heap[wr.heap.size]? = some (.cells #[.int .i64 s.gate, .int .i64 s.number, .int .i64 s.time, .int .i64 s.serial, .int .i64 s.kind, .string (bs s.owner)] 39 (0, 0))) := (HA2.out.block _ (by omega)).trans HX.out
        clear x0 x1 x2 x3 x4 x5 hrun
        generalize (w1.alloc (.cells #[.int .i64 t.gate, .int .i64 t.number, .int .i64 t.time, .int .i64 t.serial, .int .i64 t.kind, .string (bs t.owner)] 39)) = w2 at *
        have x0 : w2.cell? ⟨wr.heap.size, 0, none⟩ = some (.int .i64 s.gate) := cell_of_row (j := 0) _ _ _ _ _ HX2.out
        have x1 : w2.cell? ⟨wr.heap.size, 1, none⟩ = some (.int .i64 s.number) := cell_of_row (j := 1) _ _ _ _ _ HX2.out
        have x2 : w2.cell? ⟨wr.heap.size, 2, none⟩ = some (.int .i64 s.time) := cell_of_row (j := 2) _ _ _ _ _ HX2.out
        have x3 : w2.cell? ⟨wr.heap.size, 3, none⟩ = some (.int .i64 s.serial) := cell_of_row (j := 3) _ _ _ _ _ HX2.out
        have x4 : w2.cell? ⟨wr.heap.size, 4, none⟩ = some (.int .i64 s.kind) := cell_of_row (j := 4) _ _ _ _ _ HX2.out
        have x5 : w2.cell? ⟨wr.heap.size, 5, none⟩ = some (.string (bs s.owner)) := cell_of_row (j := 5) _ _ _ _ _ HX2.out
        have HB2 := Lib.hid ((HB.out.below HA1.out).below HA2.out)
        have HU2 := Lib.hid ((HU.out.next HA1.out).next HA2.out)
        have HI2 := Lib.hid ((HI.out.below HA1.out).below HA2.out)
        have HN2 := Lib.hid (HN1.out.below HA2.out)
        have hbll : (bl ++ forkF (l.take i)).length ≤ 900000 := by have := HKL.out; rw [List.length_append]; omega
        go_wp2_with fail
        refine (blame_any w2 bb _ 2 s.gate s.number s HB2.out hbll).mono ?_
        rintro e w3 ⟨rfl, hb3, hu3⟩
        have HB3 := Lib.hid hb3
        have HU3 := Lib.hid (HU2.out.trans hu3)
        have HI3 := Lib.hid (HI2.out.updB hu3)
        have HN3 := Lib.hid (HN2.out.updB hu3)
        have hs3 := hu3.size
        clear hb3 hu3 x0 x1 x2 x3 x4 x5 hbll
        go_wp2_with fail
        go_roundw
        case rel => exact ⟨i + 1, E, by go_num, hlt, by rw [HF2.out]; exact HN3, by rw [HF2.out]; exact HI3, by rw [HK2.out]; exact HB3, HU3, by omega⟩
        case measure => simp [intOf]; omega
    · have hi' : i = n := by omega
      subst hi'
      rw [List.take_of_length_le (by rw [HL.out]; omega)] at HN HI HB
      obtain ⟨wo, rfl⟩ : ∃ wo : World, wo = wr := ⟨_, rfl⟩
      have hfl := first_len l
      rw [HL.out] at hfl
      have HFL := Lib.hid hfl
      have HSS : Hid (((firstL l).map (·.number)).mergeSort (fun x y => decide (x ≤ y)) = numsS l) := sort_set (first_nodup l)
      have hlm : ((firstL l).map (·.number)).length ≤ 1000000 := by rw [List.length_map]; omega
      have HLM := Lib.hid hlm
      clear hfl hlm
      go_wp2_with fail
      refine (sort_own (w.heap.size + 1) _ u5 _ wo hsz HLM.out HI.out).mono ?_
      rintro e w2 ⟨rfl, ho2, hg2⟩
      rw [HSS.out, ← List.length_mergeSort (le := fun x y => decide (x ≤ y)), HSS.out] at ho2
      have HI2 : Hid (IntsO w2 (w.heap.size + 1) u5 (numsS l)) := ho2
      have HN2 : Hid (NumAt w2 w.heap.size E (firstL l)) := by
        obtain ⟨_, _, e⟩ := ownsMap_blk HN.out.map
        exact HN.out.heap (hg2.block _ (lt_of_block e) (fun e => by have := (HI.out.blk e.symm).1; omega))
      have HB2 : Hid (BAt w2 bb (bl ++ forkF l)) := HB.out.int hg2 (fun b e => (HI.out.blk e).2)
      have HU2 : Hid (UpdB bb w w2) := HU.out.grown hg2 (fun b e => by have := (HI.out.blk e).1; omega)
      have HSM : Hid (∀ k, k ∈ numsS l ↔ k ∈ (firstL l).map (·.number)) := fun k => setK_mem KI _ k
      have HSL : Hid ((numsS l).length ≤ i) := by
        show _ ≤ _
        rw [← HSS.out, List.length_mergeSort, List.length_map]
        exact HFL.out
      have HSP : Hid (0 < (numsS l).length) := by
        have hl0 : 0 < l.length := by rw [HL.out]; omega
        have h1 : l[0].number ∈ numsS l := by
          rw [HSM.out, List.mem_map]
          have h2 : seenB (firstL l) l[0].number = true := by rw [first_seen]; exact seen_iff.mpr ⟨_, List.getElem_mem hl0, rfl⟩
          obtain ⟨t, ht, e⟩ := seen_iff.mp h2
          exact ⟨t, ht, e⟩
        exact List.length_pos_of_mem h1
      clear ho2 hg2 HI HN HB HU HLM HSS
      obtain ⟨m, hm⟩ : ∃ m, (numsS l).length = m := ⟨_, rfl⟩
      have HM := Lib.hid hm
      rw [hm] at HSL HSP
      obtain ⟨sb, sc, rfl, hsb, hir⟩ := IntRow.of_row (n := m) HSP.out (by have := HI2.out; unfold IntsO at this; rw [hm] at this; exact this)
      have HIR := Lib.hid hir
      have hm1 := HSP.out
      have hmi := HSL.out
      clear hm hir HSP HSL HI2
      go_wp2_with fail
      go_loopw [10] (fun v10 wr => ∃ j : Nat, v10 = .int .i64 j ∧ 1 ≤ j ∧ j ≤ m ∧ Hid (BAt wr bb (bl ++ (forkF l ++ orderF (firstL l) (numsS l) j))) ∧ Hid (UpdB bb w wr) ∧ Hid (NumAt wr w.heap.size E (firstL l)) ∧ Hid (IntRow wr sb 3 (numsS l))) (fun v10 _ => m - (intOf v10).toNat)
      case atStart =>
        refine ⟨1, rfl, Nat.le_refl _, hm1, ?_, HU2.out, HN2.out, HIR.out⟩
        show BAt _ _ _
        rw [show orderF (firstL l) (numsS l) 1 = [] from rfl, List.append_nil]
        exact HB2.out
      case round =>
        clear HB2 HU2 HN2 HIR
        obtain ⟨j, rfl, hj1, hj, HB, HU, HN, HIR⟩ := hrel
        by_cases hlt2 : j < m
        · have hjS : j < (numsS l).length := by rw [HM.out]; exact hlt2
          obtain ⟨p, hp⟩ : ∃ p, p + 1 = j := ⟨j - 1, by omega⟩
          have hpi : (j : Int) - 1 = (p : Int) := by omega
          have hpm : p < m := by omega
          have c0 := HIR.out.cell j hjS
          have d0 := HIR.out.cell p (by omega)
          have HPJ : Hid (j - 1 = p) := by show _ = _; omega
          clear hp
          obtain ⟨a, ha⟩ : ∃ a, ix (numsS l) j = a := ⟨_, rfl⟩
          obtain ⟨b, hb⟩ : ∃ b, ix (numsS l) p = b := ⟨_, rfl⟩
          rw [ha] at c0
          rw [hb] at d0
          have hsa : seenB (firstL l) a = true := by
            obtain ⟨t, ht, e⟩ := List.mem_map.mp ((HSM.out a).mp (by rw [← ha]; exact ix_in hjS))
            exact seen_iff.mpr ⟨t, ht, e⟩
          have hsb2 : seenB (firstL l) b = true := by
            obtain ⟨t, ht, e⟩ := List.mem_map.mp ((HSM.out b).mp (by rw [← hb]; exact ix_in (by omega)))
            exact seen_iff.mpr ⟨t, ht, e⟩
          have hwa : (Lit.int .i64 a).wf = true := by
            obtain ⟨t, ht, e⟩ := seen_iff.mp hsa
            rw [← e]; exact (HWF.out t (first_mem l t ht)).2.1
          have hwb : (Lit.int .i64 b).wf = true := by
            obtain ⟨t, ht, e⟩ := seen_iff.mp hsb2
            rw [← e]; exact (HWF.out t (first_mem l t ht)).2.1
          have HON : Hid (orderF (firstL l) (numsS l) (j + 1) = if (numOf (firstL l) a).time < (numOf (firstL l) b).time then orderF (firstL l) (numsS l) j ++ [orderB (numOf (firstL l) a) (numOf (firstL l) b)] else orderF (firstL l) (numsS l) j) := by
            show _ = _
            rw [order_next _ _ _ hj1, HPJ.out, ← ha, ← hb]
            rfl
          have HOL : Hid ((orderF (firstL l) (numsS l) j).length ≤ j) := by
            show _ ≤ _
            unfold orderF
            rw [List.length_map]
            refine Nat.le_trans (List.length_filter_le _ _) ?_
            rw [List.length_range']
            omega
          have HFO : Hid ((forkF l).length ≤ i) := by show _ ≤ _; have := fork_len l; rw [HL.out] at this; exact this
          have hA : ∀ wx : World, wx.heap[w.heap.size]? = wr.heap[w.heap.size]? → (Instr.lookup 96 (.map (some w.heap.size)) (.int .i64 a) false).run Try.prog wx = .ok (.agg #[.int .i64 (numOf (firstL l) a).gate, .int .i64 (numOf (firstL l) a).number, .int .i64 (numOf (firstL l) a).time, .int .i64 (numOf (firstL l) a).serial, .int .i64 (numOf (firstL l) a).kind, .string (bs (numOf (firstL l) a).owner)]) wx := fun wx e => by
            have h := (HN.out.heap e).yes hsa
            rw [lookV_no Try.underlying96 (scan_zero wx) (HN.out.heap e).map hwa, h]
            rfl
          have hB : ∀ wx : World, wx.heap[w.heap.size]? = wr.heap[w.heap.size]? → (Instr.lookup 96 (.map (some w.heap.size)) (.int .i64 b) false).run Try.prog wx = .ok (.agg #[.int .i64 (numOf (firstL l) b).gate, .int .i64 (numOf (firstL l) b).number, .int .i64 (numOf (firstL l) b).time, .int .i64 (numOf (firstL l) b).serial, .int .i64 (numOf (firstL l) b).kind, .string (bs (numOf (firstL l) b).owner)]) wx := fun wx e => by
            have h := (HN.out.heap e).yes hsb2
            rw [lookV_no Try.underlying96 (scan_zero wx) (HN.out.heap e).map hwb, h]
            rfl
          have hMl : w.heap.size < wr.heap.size := by obtain ⟨_, _, e⟩ := ownsMap_blk HN.out.map; exact lt_of_block e
          generalize numOf (firstL l) a = s at *
          generalize numOf (firstL l) b = t at *
          have hA1 := hA wr rfl
          have hA2 := hA wr.drew rfl
          have hB1 := hB wr rfl
          have hB2 := hB wr.drew rfl
          have hA3 := fun o1 o2 => hA ((wr.alloc o1).alloc o2).drew ((Joins.below_alloc2 wr o1 o2).block _ hMl)
          have hB3 := fun o1 o2 => hB ((wr.alloc o1).alloc o2).drew ((Joins.below_alloc2 wr o1 o2).block _ hMl)
          have hA4 := fun o1 => hA (wr.alloc o1).drew ((Joins.below_alloc1 wr o1).block _ hMl)
          have hB4 := fun o1 => hB (wr.alloc o1).drew ((Joins.below_alloc1 wr o1).block _ hMl)
          have c4 := fun o1 => Below.cell_of (Joins.below_alloc1 wr o1) c0
          have d4 := fun o1 => Below.cell_of (Joins.below_alloc1 wr o1) d0
          have c3 := fun o1 o2 => Below.cell_of (Joins.below_alloc2 wr o1 o2) c0
          have d3 := fun o1 o2 => Below.cell_of (Joins.below_alloc2 wr o1 o2) d0
          clear hA hB ha hb hsa hsb2 hjS hwa hwb
          go_upto_region 15 with fail
          go_cut [11, 12] (fun v11 v12 wx => ∃ b1 b2 : Nat, v11 = .pointer (some ⟨b1, 0, none⟩) ∧ v12 = .pointer (some ⟨b2, 0, none⟩) ∧ Hid (wx.heap[b1]? = some (.cells #[.int .i64 s.gate, .int .i64 s.number, .int .i64 s.time, .int .i64 s.serial, .int .i64 s.kind, .string (bs s.owner)] 39 (0, 0))) ∧ Hid (wx.heap[b2]? = some (.cells #[.int .i64 t.gate, .int .i64 t.number, .int .i64 t.time, .int .i64 t.serial, .int .i64 t.kind, .string (bs t.owner)] 39 (0, 0))) ∧ Hid (Below wr.heap.size wr wx))
          case first =>
            go_region
            · go_wp2_with fail
              go_meet
              case rel => exact ⟨_, _, rfl, rfl, (two_blocks wr _ _).1, (two_blocks wr _ _).2.1, (two_blocks wr _ _).2.2⟩
            · go_wp2_with fail
              go_meet
              case rel => exact ⟨_, _, rfl, rfl, (two_blocks wr _ _).2.1, (two_blocks wr _ _).1, (two_blocks wr _ _).2.2⟩
          case rest =>
            obtain ⟨b1, b2, rfl, rfl, HX1, HX2, HBC⟩ := hcut
            obtain ⟨w3, rfl⟩ : ∃ y, y = wc := ⟨_, rfl⟩
            clear hA1 hA2 hA3 hA4 hB1 hB2 hB3 hB4 c0 c3 c4 d0 d3 d4
            have x0 : w3.cell? ⟨b1, 0, none⟩ = some (.int .i64 s.gate) := cell_of_row (j := 0) _ _ _ _ _ HX1.out
            have x1 : w3.cell? ⟨b1, 1, none⟩ = some (.int .i64 s.number) := cell_of_row (j := 1) _ _ _ _ _ HX1.out
            have x2 : w3.cell? ⟨b1, 2, none⟩ = some (.int .i64 s.time) := cell_of_row (j := 2) _ _ _ _ _ HX1.out
            have x3 : w3.cell? ⟨b1, 3, none⟩ = some (.int .i64 s.serial) := cell_of_row (j := 3) _ _ _ _ _ HX1.out
            have x4 : w3.cell? ⟨b1, 4, none⟩ = some (.int .i64 s.kind) := cell_of_row (j := 4) _ _ _ _ _ HX1.out
            have x5 : w3.cell? ⟨b1, 5, none⟩ = some (.string (bs s.owner)) := cell_of_row (j := 5) _ _ _ _ _ HX1.out
            have y1 : w3.cell? ⟨b2, 1, none⟩ = some (.int .i64 t.number) := cell_of_row (j := 1) _ _ _ _ _ HX2.out
            have y2 : w3.cell? ⟨b2, 2, none⟩ = some (.int .i64 t.time) := cell_of_row (j := 2) _ _ _ _ _ HX2.out
            have HB3 := Lib.hid (HB.out.below HBC.out)
            have HU3 := Lib.hid (HU.out.next HBC.out)
            have HN3 := Lib.hid (HN.out.below HBC.out)
            have HIR3 := Lib.hid (HIR.out.below HBC.out)
            by_cases hst : s.time < t.time
            · have HO2 : Hid (bl ++ (forkF l ++ orderF (firstL l) (numsS l) (j + 1)) = bl ++ (forkF l ++ orderF (firstL l) (numsS l) j) ++ [⟨3, s.serial, s.gate, s.number, s.gate, t.number⟩]) := by
                show _ = _
                rw [HON.out, if_pos hst, List.append_assoc, List.append_assoc]
                rfl
              have hbll : (bl ++ (forkF l ++ orderF (firstL l) (numsS l) j)).length ≤ 900000 := by
                have := HOL.out; have := HFO.out
                rw [List.length_append, List.length_append]; omega
              clear HON HX1 HX2 HB HU HN HIR HBC
              go_wp2_with fail
              refine (blame_any w3 bb _ 3 s.gate t.number s HB3.out hbll).mono ?_
              rintro e w4 ⟨rfl, hb4, hu4⟩
              have HB4 := Lib.hid hb4
              have HU4 := Lib.hid (HU3.out.trans hu4)
              have HN4 := Lib.hid (HN3.out.updB hu4)
              have HIR4 : Hid (IntRow w4 sb 3 (numsS l)) := by
                obtain ⟨arr, e, r⟩ := HIR3.out
                exact ⟨arr, hu4.cells e (by decide) (by decide), r⟩
              clear hb4 hu4 x0 x1 x2 x3 x4 x5 y1 y2 hbll hst
              go_wp2_with fail
              go_roundw
              case rel => exact ⟨j + 1, by go_num, by omega, hlt2, by rw [HO2.out]; exact HB4, HU4, HN4, HIR4⟩
              case measure => simp [intOf]; omega
            · have HO2 : Hid (orderF (firstL l) (numsS l) (j + 1) = orderF (firstL l) (numsS l) j) := by show _ = _; rw [HON.out, if_neg hst]
              clear HON HX1 HX2 HB HU HN HIR HBC
              go_wp2_with fail
              go_roundw
              case rel => exact ⟨j + 1, by go_num, by omega, hlt2, by rw [HO2.out]; exact HB3, HU3, HN3, HIR3⟩
              case measure => simp [intOf]; omega
        · have hj' : j = m := by omega
          subst hj'
          obtain ⟨wo, rfl⟩ : ∃ wo : World, wo = wr := ⟨_, rfl⟩
          obtain ⟨q, hq⟩ : ∃ q, q + 1 = j := ⟨j - 1, by omega⟩
          have hqi : (j : Int) - 1 = (q : Int) := by omega
          have hqm : q < j := by omega
          have c0 := HIR.out.cell q (by rw [HM.out]; omega)
          have HMX : Hid ((numsS l).getD ((numsS l).length - 1) 0 = ix (numsS l) q) := by
            show _ = _
            rw [HM.out, show j - 1 = q from by omega]
            rfl
          clear hq
          generalize ix (numsS l) q = mx at *
          have HOJ : Hid ((orderF (firstL l) (numsS l) j).length ≤ i) := by
            show _ ≤ _
            unfold orderF
            rw [List.length_map]
            refine Nat.le_trans (List.length_filter_le _ _) ?_
            rw [List.length_range']
            omega
          have HFO : Hid ((forkF l).length ≤ i) := by show _ ≤ _; have := fork_len l; rw [HL.out] at this; exact this
          by_cases hmx : 4000 < mx
          · have HGF : Hid (gateF l gt (numsS l) = forkF l ++ orderF (firstL l) (numsS l) j) := by
              show _ = _
              unfold gateF
              rw [HMX.out, if_pos hmx, List.append_nil, HM.out]
            go_wp2_with fail
            go_end0
            exact ⟨rfl, by rw [HGF.out]; exact HB.out, HU.out⟩
          have HGF : Hid (gateF l gt (numsS l) = forkF l ++ (orderF (firstL l) (numsS l) j ++ gapF l gt mx mx.toNat)) := by
            show _ = _
            unfold gateF
            rw [HMX.out, if_neg hmx, HM.out]
          clear HMX
          go_wp2_with fail
          go_loopw [14] (fun v14 wr => ∃ k : Nat, v14 = .int .i64 k ∧ 1 ≤ k ∧ ((k : Int) ≤ mx ∨ k = 1) ∧ Hid (BAt wr bb (bl ++ (forkF l ++ (orderF (firstL l) (numsS l) j ++ gapF l gt mx k)))) ∧ Hid (UpdB bb w wr) ∧ Hid (NumAt wr w.heap.size E (firstL l))) (fun v14 _ => 4001 - (intOf v14).toNat)
          case atStart =>
            refine ⟨1, rfl, Nat.le_refl _, Or.inr rfl, ?_, HU.out, HN.out⟩
            show BAt _ _ _
            rw [show gapF l gt mx 1 = [] from rfl, List.append_nil]
            exact HB.out
          case round =>
            clear HB HU HN c0 HIR
            obtain ⟨k, rfl, hk1, hk, HB, HU, HN⟩ := hrel
            by_cases hkm : (k : Int) < mx
            · have hk4 : k < 4000 := by omega
              have hwk : (Lit.int .i64 (k : Int)).wf = true := by
                simp [Lit.wf]
                have e1 : IntKind.i64.min = -9223372036854775808 := (by decide)
                have e2 : IntKind.i64.max = 9223372036854775807 := (by decide)
                omega
              have HGN := Lib.hid (gap_next l gt mx k hk1)
              have HGL : Hid ((gapF l gt mx k).length ≤ k) := by
                show _ ≤ _
                unfold gapF
                rw [List.length_map]
                refine Nat.le_trans (List.length_filter_le _ _) ?_
                rw [List.length_range']
                omega
              cases hs : seenB (firstL l) k
              · have hrun : (Instr.lookup 96 (.map (some w.heap.size)) (.int .i64 (k : Int)) true).run Try.prog wr = .ok (.tuple #[.agg #[.int .i64 0, .int .i64 0, .int .i64 0, .int .i64 0, .int .i64 0, .string (bs [])], .bool false]) wr := by
                  rw [lookV_ok Try.underlying96 (scan_zero wr) HN.out.map hwk, HN.out.no hs]
                  rfl
                have HGN2 : Hid (bl ++ (forkF l ++ (orderF (firstL l) (numsS l) j ++ gapF l gt mx (k + 1))) = bl ++ (forkF l ++ (orderF (firstL l) (numsS l) j ++ gapF l gt mx k)) ++ [⟨3, 0, gt, k, -1, mx⟩]) := by
                  show _ = _
                  rw [HGN.out, ← first_seen, hs]
                  simp [gapB]
                have hl0 : 0 < l.length := by rw [HL.out]; omega
                have HA2 := Lib.hid (Joins.below_alloc1 wr (.cells #[.int .i64 0, .int .i64 0, .int .i64 0, .int .i64 0, .int .i64 0, .string (bs [])] 39))
                have z0 := (scn_cells (HR.out.updB (HU.out.next HA2.out)) 0 0 rfl (List.getElem?_eq_getElem hl0)).1
                rw [HGT.out _ (List.getElem_mem hl0)] at z0
                have hbll : (bl ++ (forkF l ++ (orderF (firstL l) (numsS l) j ++ gapF l gt mx k))).length ≤ 900000 := by
                  have := HOJ.out; have := HFO.out; have := HGL.out
                  rw [List.length_append, List.length_append, List.length_append]; omega
                clear hs hl0 HGN
                go_upto_region 24 with fail
                have HB2 := Lib.hid (HB.out.below HA2.out)
                have HU2 := Lib.hid (HU.out.next HA2.out)
                have HN2 := Lib.hid (HN.out.below HA2.out)
                clear hrun hwk
                generalize wr.alloc (.cells #[.int .i64 0, .int .i64 0, .int .i64 0, .int .i64 0, .int .i64 0, .string (bs [])] 39) = w2 at *
                go_wp2_with fail
                refine (blame_any w2 bb _ 3 (-1) mx ⟨gt, k, 0, 0, 0, []⟩ HB2.out hbll).mono ?_
                rintro e w4 ⟨rfl, hb4, hu4⟩
                have HB4 := Lib.hid hb4
                have HU4 := Lib.hid (HU2.out.trans hu4)
                have HN4 := Lib.hid (HN2.out.updB hu4)
                clear hb4 hu4 z0 hbll
                go_wp2_with fail
                go_roundw
                case rel => exact ⟨k + 1, by go_num, by omega, Or.inl (by omega), by rw [HGN2.out]; exact HB4, HU4, HN4⟩
                case measure => simp [intOf]; omega
              · have hrun : (Instr.lookup 96 (.map (some w.heap.size)) (.int .i64 (k : Int)) true).run Try.prog wr = .ok (.tuple #[.agg #[.int .i64 (numOf (firstL l) (k : Int)).gate, .int .i64 (numOf (firstL l) (k : Int)).number, .int .i64 (numOf (firstL l) (k : Int)).time, .int .i64 (numOf (firstL l) (k : Int)).serial, .int .i64 (numOf (firstL l) (k : Int)).kind, .string (bs (numOf (firstL l) (k : Int)).owner)], .bool true]) wr := by
                  rw [lookV_ok Try.underlying96 (scan_zero wr) HN.out.map hwk, HN.out.yes hs]
                  rfl
                have HGN2 : Hid (gapF l gt mx (k + 1) = gapF l gt mx k) := by
                  show _ = _
                  rw [HGN.out, ← first_seen, hs]
                  rfl
                clear hs HGN
                generalize numOf (firstL l) (k : Int) = t at *
                have HA2 := Lib.hid (Joins.below_alloc1 wr (.cells #[.int .i64 t.gate, .int .i64 t.number, .int .i64 t.time, .int .i64 t.serial, .int .i64 t.kind, .string (bs t.owner)] 39))
                go_upto_region 24 with fail
                have HB2 := Lib.hid (HB.out.below HA2.out)
                have HU2 := Lib.hid (HU.out.next HA2.out)
                have HN2 := Lib.hid (HN.out.below HA2.out)
                clear hrun hwk
                generalize (wr.alloc (.cells #[.int .i64 t.gate, .int .i64 t.number, .int .i64 t.time, .int .i64 t.serial, .int .i64 t.kind, .string (bs t.owner)] 39)) = w2 at *
                go_wp2_with fail
                go_roundw
                case rel => exact ⟨k + 1, by go_num, by omega, Or.inl (by omega), by rw [HGN2.out]; exact HB2, HU2, HN2⟩
                case measure => simp [intOf]; omega
            · have HK : Hid (gapF l gt mx k = gapF l gt mx mx.toNat) := by
                show _ = _
                rcases hk with h | h
                · rw [show mx.toNat = k from by omega]
                · subst h
                  unfold gapF
                  rw [show 1 - 1 = 0 from rfl, show mx.toNat - 1 = 0 from by omega]
              go_wp2_with fail
              go_end0
              exact ⟨rfl, by rw [HGF.out, ← HK.out]; exact HB.out, HU.out⟩
end Go.Proofs.Ytpmoelkblngamaa
