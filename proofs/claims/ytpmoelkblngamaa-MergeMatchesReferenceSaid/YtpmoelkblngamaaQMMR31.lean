/- merge: Blames: the walk. -/
import Derived.Test.YtpmoelkblngamaaQMMR27
import Derived.Test.YtpmoelkblngamaaQMMR29
import Derived.Test.YtpmoelkblngamaaQMMR30
import Derived.Maps.OwnIn

namespace Go.Proofs.Ytpmoelkblngamaa
open Go.RowKit Go.Shelf Go.IntWalk Go.Maps Go.WideMaps
attribute [local go_sem] Oper.semAt_some

/-- The titles' times so far, in a map: the last one of a serial counts. -/
structure SinAt (w : World) (M : Nat) (E : List EntT) (pre : List GoR) : Prop where
  asc : AscV E
  map : w.ownsMap Try.prog 3 RV M E.length (mapV E)
  look : ∀ k, lookV E k = (pre.reverse.find? fun x => decide (x.serial = k)).map fun x => .int .i64 x.gone
  len : E.length ≤ pre.length

theorem SinAt.heap {w w' : World} {M : Nat} {E : List EntT} {pre : List GoR} (h : SinAt w M E pre) (e : w'.heap[M]? = w.heap[M]?) : SinAt w' M E pre := ⟨h.asc, ownsMap_heap h.map e, h.look, h.len⟩
theorem SinAt.put {w w' : World} {M n : Nat} {E : List EntT} {pre : List GoR} (h : SinAt w M E pre) (x : GoR) (hm : w'.ownsMap Try.prog 3 RV M n ((mapV E).put (.int .i64 x.serial) (.held (.int .i64 x.gone)))) : SinAt w' M (putV E x.serial (.int .i64 x.gone)) (pre ++ [x]) := by
  rw [mapV_put h.asc] at hm
  refine ⟨putV_asc h.asc _ _, tightV hm, fun k => ?_, ?_⟩
  · rw [look_put h.asc, List.reverse_append, List.reverse_singleton, List.singleton_append, List.find?_cons]
    by_cases e : k = x.serial
    · rw [if_pos e]
      simp [e]
    · rw [if_neg e, h.look]
      have : decide (x.serial = k) = false := by simp; exact fun e' => e e'.symm
      simp only [this]
  · have := putV_len E x.serial (.int .i64 x.gone)
    have := h.len
    rw [List.length_append, List.length_singleton]
    omega
theorem int_zero (w : World) : (zeroValue 3).run Try.prog w = .ok (.int .i64 0) w := by kernel_rfl

/-- What Blames' titles say. -/
def goneOf (gone : List GoR) : List GoneT := gone.map fun x => (x.serial, x.gone)

theorem since_of (gone : List GoR) (k : Int) : sinceS (goneOf gone) k = ((gone.find? fun x => decide (x.serial = k)).map (·.gone)).getD 0 := by
  unfold sinceS goneOf
  rw [List.find?_map, Option.map_map]
  rfl

/-- All titles are in the map. -/
theorem SinAt.done {w : World} {M : Nat} {E : List EntT} {pre gone : List GoR} (h : SinAt w M E pre) (hp : pre = gone.reverse) {k : Int} (hk : (Lit.int .i64 k).wf = true) :
    (Instr.lookup 67 (.map (some M)) (.int .i64 k) false).run Try.prog w = .ok (.int .i64 (sinceS (goneOf gone) k)) w := by
  rw [lookV_no Try.underlying67 (int_zero w) h.map hk, h.look, hp, List.reverse_reverse, since_of]
  cases gone.find? fun x => decide (x.serial = k) <;> rfl

/-- Between two rounds over the titles. -/
def GoI (w3 : World) (M gn : Nat) (pre : List (Nat × GoR)) (W : World) : Prop := (∃ E, SinAt W M E (pre.map (·.2))) ∧ Upd (fun i => i = M) w3 W ∧ pre.length ≤ gn

theorem goI_own {w3 : World} {M gn : Nat} (hM : M < w3.heap.size) : OwnFrom w3.heap.size (GoI w3 M gn) := by
  rintro pre X Y row ⟨⟨E, hs⟩, hu, hl⟩ hg hr
  have hMx : M < X.heap.size := Nat.lt_of_lt_of_le hM hu.size
  refine ⟨⟨E, hs.heap (hg.block M hMx (fun e => ?_))⟩, ?_, hl⟩
  · have := (hr M e.symm).1
    omega
  · exact ⟨hg.os.trans hu.os, hg.tape.trans hu.tape, hg.output.trans hu.output, Nat.le_trans hu.size hg.size, fun i hi hS => (hg.block i (Nat.lt_of_lt_of_le hi hu.size) (fun e => by have := (hr i e.symm).1; omega)).trans (hu.block i hi hS)⟩

/-- A title in its box. -/
def GoB (b0 b : Nat) (x : Nat × GoR) (W : World) : Prop := b0 ≤ b ∧ W.heap[b]? = some (.cells #[.int .i64 x.2.serial, .int .i64 x.2.shw, .int .i64 x.2.place, .string (bs x.2.first), .slice x.2.ca x.2.cn x.2.cc, .string (bs x.2.person), .slice x.2.la x.2.ln x.2.lc, .int .i64 x.2.total, .slice x.2.ma x.2.mn x.2.mc, .int .i64 x.2.gone, .slice x.2.oa x.2.on x.2.oc] 60 (0, 0))

theorem goB_own (n b0 b : Nat) (x : Nat × GoR) : OwnFrom n (fun (_ : Unit) W => GoB b0 b x W) := by
  rintro _ X Y row ⟨h1, h2⟩ hg hr
  refine ⟨h1, (hg.block b (lt_of_block h2) (fun e => ?_)).trans h2⟩
  obtain ⟨_, o, ho, hc⟩ := hr b e.symm
  rw [h2] at ho
  cases ho
  cases hc

theorem size_putObj (W : World) (l : Nat) (o' : Obj) : (W.putObj l o').heap.size = W.heap.size := by simp [World.putObj]
theorem kp_putObj {n0 M : Nat} (W : World) (l : Nat) (o' : Obj) (h : n0 ≤ l) : KpM n0 M W (W.putObj l o') :=
  ⟨(grownBy_putObj' W l o').size, fun i hi _ => by
    by_cases hW : i < W.heap.size
    · exact (grownBy_putObj' W l o').block i hW (fun e => by have := Option.some.inj e; omega)
    · rw [Array.getElem?_eq_none (Nat.le_of_not_lt hW), Array.getElem?_eq_none (by rw [size_putObj]; omega)]⟩
theorem kp_below {n0 M : Nat} {W W' : World} (h : Below W.heap.size W W') (hn : n0 ≤ W.heap.size) : KpM n0 M W W' := ⟨h.size, fun i hi _ => h.block i (by omega)⟩

theorem step_len (gone : List GoneT) (st : Int) (l : List Scn) (j : Nat) : (wayStep gone st l j).length ≤ 2 := by
  have hp : ∀ s t, (pairB s t).length ≤ 1 := fun s t => by
    unfold pairB
    split
    · split
      · split <;> simp
      · simp
    · simp
  unfold wayStep
  split
  · rw [List.length_append]
    have h1 : (if lateB gone st (scAt l j) = true then [staleB (scAt l j) (sinceS gone (scAt l j).serial)] else []).length ≤ 1 := by split <;> simp
    have h2 : (if j = 0 then [] else pairB (scAt l j) (scAt l (j - 1))).length ≤ 1 := by
      split
      · simp
      · exact hp _ _
    omega
  · simp
theorem way_len (gone : List GoneT) (st : Int) (l : List Scn) (j : Nat) : (wayF gone st l j).length ≤ 2 * j := by
  induction j with
  | zero => exact Nat.le_refl _
  | succ j ih =>
    rw [way_next, List.length_append]
    have := step_len gone st l j
    omega

/-- What Blames returns. -/
def BlamesPost (B : List Blm) (w : World) (e : Ending) (w' : World) : Prop :=
  ∃ la c, e = .returned (.slice la B.length c) ∧ OwnRecs BlmE w' w.heap.size 48 la B.length B ∧ Below w.heap.size w w'

set_option maxRecDepth 100000 in
set_option maxHeartbeats 6400000 in
theorem mblames_any (w : World) (v : Value) (scans : List Scn) (ga : Option Addr) (gn gc : Nat) (gone : List GoR) (stale : Int) (hs : Scs w v scans) (hsn : scans.length ≤ 1000) (hmn : (mergeS scans).length ≤ 100) (hg : Recs GoE w ga gn gone) (hgn : gn ≤ 1000) (hwf : ∀ s ∈ scans, WfS s) :
    Calls Try.prog 17 #[v, .slice ga gn gc, .int .i64 stale] w (BlamesPost (blamesS (goneOf gone) stale scans) w) := by
  obtain ⟨sa, sc, rfl, hsr⟩ := hs
  have HS : Hid (Scs w (.slice sa scans.length sc) scans) := ⟨sa, sc, rfl, hsr⟩
  have HGO := Lib.hid hg
  have HWF := Lib.hid hwf
  have hmm := @run_makeMap Try.prog
  clear hsr hg hwf
  refine (callsIn_wide (n := 5)).1 ?_
  refine callsIn_of_wp_marks Try.func17 rfl trivial ?_ rfl
  simp only [Try.ntmps17, List.size_toArray, List.length_cons, List.length_nil, Nat.reduceAdd, Nat.reduceSub, Array.replicate_succ, Array.replicate_zero, List.push_toArray, List.append_toArray, List.nil_append, List.cons_append]
  refine wpIn_wide.2 ?_
  go_wp2_with fail
  refine (merge_any _ 1 1 [scans] _ (logs_one HS.out) (by omega) (by simp [sumL]; omega)).mono ?_
  rintro e w1 ⟨la, lc, rfl, ho, hlc, hb⟩
  have hb1 : Below w.heap.size w w1 := (Joins.below_alloc1 w _).trans (hb.mono (by simp))
  rw [show [scans].flatten = scans from by simp] at ho ⊢
  have HX := Lib.hid ho
  have HB1 := Lib.hid hb1
  clear ho hlc hb hb1
  obtain ⟨st, hst⟩ : ∃ st, st = staleN stale := ⟨_, rfl⟩
  have HST := Lib.hid hst
  clear hst
  go_upto_region 3 with fail
  rw [show max 0 (min stale 1000000000) = st from HST.out.symm]
  have HA2 := Lib.hid (Joins.below_alloc2 w1 (.map #[] 0) (.cells #[.map (some w1.heap.size)] 67))
  have hs2 : ((w1.alloc (.map #[] 0)).alloc (.cells #[.map (some w1.heap.size)] 67)).heap.size = w1.heap.size + 2 := by simp
  have HM2 : Hid (((w1.alloc (.map #[] 0)).alloc (.cells #[.map (some w1.heap.size)] 67)).heap[w1.heap.size]? = some (.map #[] 0)) := (two_blocks w1 _ _).1
  have HX8 : Hid (((w1.alloc (.map #[] 0)).alloc (.cells #[.map (some w1.heap.size)] 67)).heap[w1.heap.size + 1]? = some (.cells #[.map (some w1.heap.size)] 67 (0, 0))) := (two_blocks w1 _ _).2.1
  have hSI : Hid (SinAt ((w1.alloc (.map #[] 0)).alloc (.cells #[.map (some w1.heap.size)] 67)) w1.heap.size [] []) := by
    refine ⟨List.Pairwise.nil, ?_, fun k => rfl, Nat.le_refl _⟩
    exact ownsMap_heap (w := w1.alloc (.map #[] 0)) (World.ownsMap_made _ _ _ _) ((Joins.below_alloc1 (w1.alloc (.map #[] 0)) _).block _ (by simp))
  go_upto_region 4 with fail
  generalize (w1.alloc (.map #[] 0)).alloc (.cells #[.map (some w1.heap.size)] 67) = w2 at *
  go_wp2_with fail
  refine (backward_any ga gn gc w2).mono ?_
  rintro e w3 ⟨rfl, hw3⟩
  have HA3 : Hid (Below w2.heap.size w2 w3) := by show Below _ _ _; rw [hw3]; exact Joins.below_alloc1 w2 _
  have HX3 : Hid (w3.heap[w2.heap.size]? = some (.cells #[.slice ga gn gc] 23 (0, 0))) := by show _ = _; rw [hw3]; exact World.alloc_heap_new w2 _
  have hs3 : w3.heap.size = w2.heap.size + 1 := by rw [hw3]; simp
  clear hw3
  have HB3 : Hid (Below w.heap.size w w3) := (HB1.out.trans (HA2.out.mono HB1.out.size)).trans (HA3.out.mono (by have := HB1.out.size; omega))
  have HBK : Hid (BackAt w3 w3.heap.size w1.heap.size w2.heap.size ga gn gc gone) := by
    refine ⟨by omega, by omega, HX3.out, HGO.out.below HB3.out, fun b o e hn => ?_⟩
    obtain ⟨b', o', e', c⟩ := HGO.out.2 0 hn
    rw [e] at e'
    cases e'
    have := cell_lt (c 0 (by omega))
    have := HB1.out.size
    exact ⟨by omega, by omega⟩
  go_wp2_with fail
  refine (wpIn_wide (n := 5)).1 ?_
  have hw2s : w2.heap.size = w1.heap.size + 2 := hs2
  rw [hw2s] at HBK
  have hs3' : w3.heap.size = w1.heap.size + 3 := by omega
  have HSI3 : Hid (SinAt w3 w1.heap.size [] []) := hSI.out.heap (HA3.out.block _ (by omega))
  have HX8' : Hid (w3.heap[w1.heap.size + 1]? = some (.cells #[.map (some w1.heap.size)] 67 (0, 0))) := (HA3.out.block _ (by omega)).trans HX8.out
  refine wpIn_rangeFunc_box rfl (by omega) (gf := 53) (lb := #[.pointer (some ⟨w1.heap.size + 2, 0, none⟩)]) rfl trivial (enters_of Try.func53 (by kernel_rfl) rfl)
    (back_stops w3.heap.size w1.heap.size (w1.heap.size + 2) gn gc ga gone hgn 4 (by omega) w3 (Nat.le_refl _) HBK.out) (fun h k => KpM.trans h k) (fun W l o o' hl _ _ _ => kp_putObj W l o' hl) (Below.refl _ _) (fun _ => rfl)
    (GoI w3 w1.heap.size gn) (goI_own (by omega)) ⟨⟨[], HSI3.out⟩, Upd.refl _ _, Nat.zero_le _⟩ 10 (GoB w3.heap.size) (fun b x => goB_own _ _ b x) ?assign ?body ?done
  case assign =>
    rintro l pre x W K hI hK
    dsimp only [goV]
    have HK := Lib.hid hK
    clear hK
    gi_wp2
    have hbl := Joins.below_alloc1 W (.cells #[.int .i64 x.2.serial, .int .i64 x.2.shw, .int .i64 x.2.place, .string (bs x.2.first), .slice x.2.ca x.2.cn x.2.cc, .string (bs x.2.person), .slice x.2.la x.2.ln x.2.lc, .int .i64 x.2.total, .slice x.2.ma x.2.mn x.2.mc, .int .i64 x.2.gone, .slice x.2.oa x.2.on x.2.oc] 60)
    have h := HK.out W.heap.size _ ((KeepsOthers.alloc _ _).from _) (kp_below hbl hI.2.1.size) (goI_own (by omega) pre W _ none hI (grown_below hbl none) (fun r e => by cases e)) ⟨hI.2.1.size, World.alloc_heap_new W _⟩
    simp [boxFrame, goV] at h
    exact h
  case body =>
    rintro l pre x b W hl ⟨r, hr⟩ ⟨⟨E, hS⟩, hU, hpl⟩ ⟨hb, hB⟩ hlt
    clear hr
    simp [boxFrame, goV]
    have z8 : W.cell? ⟨w1.heap.size + 1, 0, none⟩ = some (.map (some w1.heap.size)) := cell_of_row (j := 0) _ _ _ _ _ ((hU.block _ (by omega) (by omega)).trans HX8'.out)
    have b0 : W.cell? ⟨b, 0, none⟩ = some (.int .i64 x.2.serial) := cell_of_row (j := 0) _ _ _ _ _ hB
    have b9 : W.cell? ⟨b, 9, none⟩ = some (.int .i64 x.2.gone) := cell_of_row (j := 9) _ _ _ _ _ hB
    have HS := Lib.hid hS
    have HU := Lib.hid hU
    have hel : E.length < maxLen := by have := hS.len; rw [List.length_map] at this; unfold maxLen; omega
    clear hS hU hB
    gi_wp2_with (gi_at_mapUpdate; refine wpListIn_mapUpdate_own _ rfl _ _ _ 67 rfl 3 3 lawI Try.underlying67 RV w1.heap.size E.length (mapV E) rfl HS.out.map hel _ _ _ rfl rfl (keyOf_int_mk Try.underlying3 x.2.ser) (.held (.int .i64 x.2.gone)) [] rfl ?_; intro w4 hown4 hgrow4; have HM4 := Lib.hid hown4; have HG4 := Lib.hid hgrow4; clear hown4 hgrow4)
    have hsW := HU.out.size
    have hI2 : GoI w3 w1.heap.size gn (pre ++ [x]) w4 := by
      refine ⟨⟨putV E x.2.serial (.int .i64 x.2.gone), ?_⟩, ⟨HG4.out.os.trans HU.out.os, HG4.out.tape.trans HU.out.tape, HG4.out.output.trans HU.out.output, Nat.le_trans HU.out.size HG4.out.size, fun i hi hS => (HG4.out.block i (by omega) (fun e => hS (Option.some.inj e))).trans (HU.out.block i hi hS)⟩, by rw [List.length_append, List.length_singleton]; omega⟩
      rw [List.map_append]
      exact HS.out.put x.2 HM4.out
    exact ⟨⟨HG4.out.size, fun k o hk h0 _ => (HG4.out.block k (lt_of_block h0) (fun e => by have := Option.some.inj e; omega)).trans h0⟩, ⟨HG4.out.size, fun i hi hne => HG4.out.block i (by omega) (fun e => hne (Option.some.inj e))⟩, hI2⟩
  case done =>
    rintro D xs W hD hxs ⟨⟨E, hS⟩, hU, _⟩ hK
    have HSI : Hid (SinAt W w1.heap.size E gone.reverse) := by show SinAt _ _ _ _; rw [← hxs]; exact hS
    have HK := Lib.hid hK
    have HUW := Lib.hid hU
    have z8 : W.heap[w1.heap.size + 1]? = some (.cells #[.map (some w1.heap.size)] 67 (0, 0)) := (hU.block _ (by omega) (by omega)).trans HX8'.out
    have HZ8 := Lib.hid z8
    have HMW : Hid (w1.heap.size < W.heap.size) := by show _ < _; have := hU.size; omega
    clear hS hU hK hxs z8
    gi_wp2
    have HSZ : Hid (w3.heap.size ≤ W.heap.size) := HUW.out.size
    have HBW : Hid (Below w.heap.size w W) := Upd.below HB3.out HUW.out (fun i hi => by subst hi; have := HB1.out.size; omega)
    have HBX : Hid (Below w1.heap.size w1 W) := Upd.below (HA2.out.trans (HA3.out.mono (by omega))) HUW.out (fun i hi => by subst hi; exact Nat.le_refl _)
    have HXW : Hid (Recs ScnE W la (mergeS scans).length (mergeS scans)) := HX.out.recs.below HBX.out
    have HWX := Lib.hid (merge_wf HWF.out)
    have hBl := Joins.below_alloc1 W (.cells #[.slice none 0 0] 71)
    have HBl := Lib.hid hBl
    have HB0 : Hid (BAt (W.alloc (.cells #[.slice none 0 0] 71)) W.heap.size []) := ⟨_, World.alloc_heap_new W _, rfl, Or.inl ⟨rfl, rfl⟩⟩
    have HDB : Hid ((W.alloc (.cells #[.slice none 0 0] 71)).heap[D]? = some (.deferred (some []))) := (hBl.block D (lt_of_block HK.out)).trans HK.out
    go_upto_region 8 with fail
    generalize W.alloc (.cells #[.slice none 0 0] 71) = W7 at *
    clear hBl
    obtain ⟨x, hx⟩ : ∃ x, x = mergeS scans := ⟨_, rfl⟩
    have HXE := Lib.hid hx
    have HXR := Lib.hid (HXW.out.below HBl.out)
    rw [← hx] at hmn HWX HXW HXR ⊢
    clear hx
    go_wp2_with fail
    refine (by_gate la x.length lc x W7 HXR.out (by omega) HWX.out).mono ?_
    rintro e w8 ⟨M, E, rfl, hM1, hM2, hG, hb, hE⟩
    have HG := Lib.hid hG
    have HB8 := Lib.hid hb
    have HE := Lib.hid hE
    have hs8 := hb.size
    have HML : Hid (M < w8.heap.size) := by obtain ⟨_, _, e⟩ := ownsMap_blk hG.map; exact lt_of_block e
    clear hG hb hE
    go_wp2_with (at_range; refine wpList_range_own _ rfl _ 72 rfl 3 22 lawI Try.underlying72 _ M _ _ rfl HG.out.map ?_; intro w0 hrg0 hg0 hs0)
    have HG0 : Hid (GrpAt w0 (W7.heap.size + 1) M E (gateL x)) := HG.out.cellsB hg0 (fun b e => by cases e)
    have HU0 : Hid (UpdB W.heap.size W7 w0) := (UpdB.of_below HB8.out).grown hg0 (fun b e => by cases e)
    have HBA0 : Hid (BAt w0 W.heap.size []) := (HB0.out.below HB8.out).other hg0 (fun b e => by cases e)
    clear hg0 HG HB8
    go_frame
    go_loopw [13] (fun v13 wr => ∃ (left : Lit → Bool) (cnt : Nat) (bl : List Blm), wr.ranges Try.prog 3 RV M w8.heap.size E.length (mapV E) left cnt ∧ Hid (Got E left (fun k b => b ∈ gateS x k) bl) ∧ Hid (BAt wr W.heap.size bl) ∧ Hid (UpdB W.heap.size W7 wr) ∧ Hid (GrpAt wr (W7.heap.size + 1) M E (gateL x)) ∧ bl.length + 4200 * cnt ≤ 4200 * E.length)
      (fun _ wr => wr.rangeLeft M w8.heap.size)
    case atStart =>
      exact ⟨_, _, [], hrg0, got_start E _, HBA0.out, HU0.out, HG0.out, by rw [mapV_size]; simp⟩
    case round =>
      clear HG0 HU0 HBA0 hrg0
      obtain ⟨left, cnt, bl, hrg, HP, HBA, HU, HG, hcl⟩ := hrel
      go_wp2_with (at_next; refine wpList_next_ranges _ rfl _ rfl 3 lawI RV (Value.int .i64) id (fun key kl hkey => by obtain ⟨x, e, _⟩ := Maps.keyOf_i64 Try.underlying3 hkey; exact ⟨x, e⟩) (fun v y hv => ⟨v, rfl⟩) M w8.heap.size _ _ _ _ rfl hrg ?_ ?_)
      · intro hc0 hl0
        have HSA : Hid (∀ b, b ∈ bl ↔ ∃ k, GateBl (gateL x k) b) := fun b => by
          rw [got_done HP.out hl0 b]
          constructor
          · rintro ⟨k, hk, hb⟩
            exact ⟨k, (gateS_mem (fun e => hk ((HG.out.keys k).mpr e)) b).mp hb⟩
          · rintro ⟨k, hb⟩
            have hne : gateL x k ≠ [] := fun e => by rw [e] at hb; exact gateBl_nil b hb
            exact ⟨k, fun e => hne ((HG.out.keys k).mp e), (gateS_mem hne b).mpr hb⟩
        clear hl0 hc0 hrg HP
        have hblm : bl.length ≤ 420000 := by have := HE.out; omega
        have HXR2 := Lib.hid (HXW.out.below (UpdB.below HBl.out HU.out (Nat.le_refl _)))
        clear HG HE hcl
        go_wp2_with fail
        refine (ways_any la x.length lc x wr HXR2.out (by omega) HWX.out).mono ?_
        rintro e w11 ⟨N, F, rfl, hN1, hN2, hG, hb, hF⟩
        have HG := Lib.hid hG
        have HB11 := Lib.hid hb
        have HF := Lib.hid hF
        have hs11 := hb.size
        have hsU := HU.out.size
        clear hG hb hF
        go_wp2_with (at_range; refine wpList_range_own _ rfl _ 72 rfl 3 22 lawI Try.underlying72 _ N _ _ rfl HG.out.map ?_; intro w0 hrg0 hg0 hs0)
        have HG0 : Hid (GrpAt w0 (wr.heap.size + 1) N F (wayL x)) := HG.out.cellsB hg0 (fun b e => by cases e)
        have HU0 : Hid (UpdB W.heap.size W7 w0) := (HU.out.next HB11.out).grown hg0 (fun b e => by cases e)
        have HBA0 : Hid (BAt w0 W.heap.size bl) := (HBA.out.below HB11.out).other hg0 (fun b e => by cases e)
        clear hg0 HG HB11 HU HBA
        go_frame
        go_loopw [15] (fun v15 wq => ∃ (left : Lit → Bool) (cnt : Nat) (m : List Blm), wq.ranges Try.prog 3 RV N w11.heap.size F.length (mapV F) left cnt ∧ Hid (Got F left (fun k b => b ∈ wayS (goneOf gone) st x k) m) ∧ Hid (BAt wq W.heap.size (bl ++ m)) ∧ Hid (UpdB W.heap.size W7 wq) ∧ Hid (GrpAt wq (wr.heap.size + 1) N F (wayL x)) ∧ m.length + 200 * cnt ≤ 200 * F.length)
          (fun _ wq => wq.rangeLeft N w11.heap.size)
        case atStart =>
          exact ⟨_, _, [], hrg0, got_start F _, by rw [List.append_nil]; exact HBA0.out, HU0.out, HG0.out, by rw [mapV_size]; simp⟩
        case round =>
          clear HG0 HU0 HBA0 hrg0
          obtain ⟨left, cnt, m, hrg, HP, HBA, HU, HG, hcl⟩ := hrel
          go_wp2_with (at_next; refine wpList_next_ranges _ rfl _ rfl 3 lawI RV (Value.int .i64) id (fun key kl hkey => by obtain ⟨x, e, _⟩ := Maps.keyOf_i64 Try.underlying3 hkey; exact ⟨x, e⟩) (fun v y hv => ⟨v, rfl⟩) N w11.heap.size _ _ _ _ rfl hrg ?_ ?_)
          · intro hc0 hl0
            have HSB : Hid (∀ b, b ∈ m ↔ ∃ k, WayBl (goneOf gone) st (wayL x k) b) := fun b => by
              rw [got_done HP.out hl0 b]
              constructor
              · rintro ⟨k, hk, hb⟩
                exact ⟨k, (wayF_mem b).mp hb⟩
              · rintro ⟨k, hb⟩
                have hne : wayL x k ≠ [] := fun e => by rw [e] at hb; exact wayBl_nil b hb
                exact ⟨k, fun e => hne ((HG.out.keys k).mp e), (wayF_mem b).mpr hb⟩
            clear hl0 hc0 hrg HP HG
            have hml : (bl ++ m).length ≤ 900000 := by have := HF.out; rw [List.length_append]; omega
            obtain ⟨v, hv1, hv2⟩ := HBA.out
            have y0 : wr.cell? ⟨W.heap.size, 0, none⟩ = some v := cell_of_row (j := 0) _ _ _ _ _ hv1
            have HV1 := Lib.hid hv1
            have HV2 := Lib.hid hv2
            have HML := Lib.hid hml
            have HDW : Hid (wr.heap[D]? = some (.deferred (some []))) := (HU.out.block D (lt_of_block HDB.out) (fun hB => by obtain ⟨_, arr, T, z, h, _⟩ := hB; rw [HDB.out] at h; cases h)).trans HDB.out
            have HBR : Hid (Below w.heap.size w wr) := HBW.out.trans ((UpdB.below HBl.out HU.out (Nat.le_refl _)).mono HBW.out.size)
            have hsU := HU.out.size
            clear hv1 hv2 HBA hml HU
            go_wp2_with fail
            refine (blames_any v (bl ++ m).length (W.heap.size + 1) (bl ++ m) wr (by have := HML.out; omega) HV2.out).mono ?_
            rintro e w20 ⟨rfl, L', hp, hso, ho2, hg2⟩
            have HM : Hid (compS L' = blamesS (goneOf gone) stale scans) := by
              show _ = _
              rw [compS_set KB hp hso]
              refine blames_eq ⟨setK_strict KB _, fun b => ?_⟩
              rw [setK_mem, List.mem_append, HSA.out b, HSB.out b, ← HST.out, ← HXE.out]
              rfl
            have hne : some W.heap.size ≠ v.ownBlock := fun e => by have := (HV2.out.lt _ e.symm).1; omega
            have y1 : w20.cell? ⟨W.heap.size, 0, none⟩ = some v := cell_of_row (j := 0) _ _ _ _ _ ((hg2.block _ (lt_of_block HV1.out) hne).trans HV1.out)
            have hcl2 : ∀ b, v.ownBlock = some b → ∃ arr T z, wr.heap[b]? = some (.cells arr T z) := fun b e => by
              rcases HV2.out.2 with ⟨rfl, _⟩ | ⟨g, cap, cur, rfl, _, hgg, _⟩
              · cases e
              · cases e
                exact ⟨_, _, _, hgg⟩
            have HD2 : Hid (w20.heap[D]? = some (.deferred (some []))) := (hg2.block D (lt_of_block HDW.out) (fun e => by obtain ⟨_, _, _, h⟩ := hcl2 D e.symm; rw [HDW.out] at h; cases h)).trans HDW.out
            have HO2 := Lib.hid ho2
            have hbn : ∀ k, v.ownBlock = some k → w.heap.size ≤ k := fun k e => by have := (HV2.out.lt k e).1; have := HBW.out.size; omega
            have HB2 : Hid (Below w.heap.size w w20) := HBR.out.grown hg2 HBR.out.size hbn
            have HBN := Lib.hid hbn
            clear hp hso ho2 hg2 y0 hcl2 hbn
            go_wp2_with fail
            refine (blm_compact v (bl ++ m).length (W.heap.size + 1) L' w20 (by have := HML.out; omega) HO2.out).mono ?_
            rintro e w21 ⟨la3, c3, rfl, ho3, hg3, hc3⟩
            have HB3' : Hid (Below w.heap.size w w21) := HB2.out.grown hg3 HB2.out.size HBN.out
            have hcl2 : ∀ b, v.ownBlock = some b → ∃ arr T z, w20.heap[b]? = some (.cells arr T z) := fun b e => by
              rcases HO2.out.2 with ⟨rfl, _⟩ | ⟨g, cap, cur, rfl, _, hgg, _⟩
              · cases e
              · cases e
                exact ⟨_, _, _, hgg⟩
            have HD3 : Hid (w21.heap[D]? = some (.deferred (some []))) := (hg3.block D (lt_of_block HD2.out) (fun e => by obtain ⟨_, _, _, h⟩ := hcl2 D e.symm; rw [HD2.out] at h; cases h)).trans HD2.out
            have HO3 := Lib.hid ho3
            clear ho3 hg3 hc3 y1 hcl2
            rw [HM.out] at HO3 ⊢
            go_wp2_with fail
            refine ⟨by simp, .inl ⟨_, _, rfl, run_takeDeferred HD3.out, ?_⟩⟩
            refine ⟨.slice la3 (blamesS (goneOf gone) stale scans).length c3, ?_, la3, c3, rfl, ?_, HB3'.out.trans (belowK_b (w := w) (Nat.le_refl _) _ D _ _ (by have := HB3.out.size; omega) HD3.out rfl rfl)⟩
            · simp [results, Try.f17, go_sem]
            · exact ⟨rfl, fun h0 => by
                obtain ⟨g, e, h1, hrr⟩ := HO3.out.2 h0
                exact ⟨g, e, by have := HBW.out.size; omega, hrr.grown (grownBy_putObj' _ D (.deferred none)) (fun e => by have := Option.some.inj e; obtain ⟨_, h2, _⟩ := hrr; rw [this, HD3.out] at h2; cases h2)⟩⟩
          · intro k c kl yd yp w12 cnt1 hkl hlx hR hat hrg1 hlt hg1 hs1 hen
            obtain ⟨k', hk', rfl, hlk, _⟩ := came_grp hkl hR hat
            cases hk'
            have HG3 := Lib.hid (HG.out.iter hrg hg1)
            have HBA3 := Lib.hid (HBA.out.iter hrg hg1)
            have HU3 : Hid (UpdB W.heap.size W7 w12) := HU.out.grown hg1 (fun b e => by cases e; omega)
            obtain ⟨g, cc, hc, hp, hrow⟩ := HG3.out.came hlk
            have hc : c = .slice (some ⟨g, 0, none⟩) (wayL x k).length cc := hc
            subst hc
            have hlen : (wayL x k).length ≤ 100 := Nat.le_trans (List.length_filter_le _ _) hmn
            have HNW : Hid (Got F (fun z => left z && !z.sameKey (.int .i64 k)) (fun k b => b ∈ wayS (goneOf gone) st x k) (m ++ wayS (goneOf gone) st x k)) := got_next HP.out (by rw [hlk]; simp) fun b => Iff.rfl
            have HROW := Lib.hid hrow
            have HWW : Hid (∀ s ∈ wayL x k, WfS s) := fun s hs => HWX.out s (way_mem.mp hs).1
            obtain ⟨l, hl⟩ : ∃ l, wayL x k = l := ⟨_, rfl⟩
            have HWL : Hid (wayS (goneOf gone) st x k = wayF (goneOf gone) st l l.length) := by show _ = _; unfold wayS; rw [hl]
            obtain ⟨q, hq⟩ : ∃ q, l.length = q := ⟨_, rfl⟩
            rw [hl] at hen hlen HROW HWW ⊢
            rw [hq] at hen hlen HWL ⊢
            have HQ := Lib.hid hq
            have HLT := Lib.hid hlt
            have hmb : m.length ≤ 20000 := by have := HF.out; omega
            have hst0 : 0 ≤ st ∧ st ≤ 1000000000 := by have := HST.out; unfold staleN at this; omega
            clear hat hkl hR hlk hlx hrow hp hq hl HP HG HBA HU hs1 hg1
            go_wp2_with fail
            go_loopw [56] (fun v56 wq => ∃ (j : Nat), v56 = .int .i64 j ∧ j ≤ q ∧ Hid (BAt wq W.heap.size (bl ++ m ++ wayF (goneOf gone) st l j)) ∧ Hid (UpdB W.heap.size w12 wq)) (fun v56 _ => q - (intOf v56).toNat)
            case atStart => exact ⟨0, rfl, Nat.zero_le _, by show BAt _ _ _; rw [show wayF (goneOf gone) st l 0 = [] from rfl, List.append_nil]; exact HBA3.out, UpdB.refl _⟩
            case round =>
              clear HBA3
              obtain ⟨j, rfl, hj, HB, HV⟩ := hrel
              have HBB := Lib.hid (UpdB.below HBl.out (HU3.out.trans HV.out) (Nat.le_refl _))
              have hsV := HV.out.size
              by_cases hjq : j < q
              · have hje : j < l.length := by rw [HQ.out]; exact hjq
                obtain ⟨c0, c1, c2, c3, c4, c5⟩ := scn_cells (HROW.out.updB HV.out) j (j * 6) rfl (List.getElem?_eq_getElem hje)
                have HSW := Lib.hid (HWW.out _ (List.getElem_mem hje))
                have HSC := Lib.hid (scAt_get hje)
                have HWN := Lib.hid (way_next (goneOf gone) st l j)
                have hwl := way_len (goneOf gone) st l j
                generalize l[j] = s at *
                clear hje
                have HA := Lib.hid (Joins.below_alloc1 wr (.cells #[.int .i64 s.gate, .int .i64 s.number, .int .i64 s.time, .int .i64 s.serial, .int .i64 s.kind, .string (bs s.owner)] 39))
                have HX1 : Hid ((wr.alloc (.cells #[.int .i64 s.gate, .int .i64 s.number, .int .i64 s.time, .int .i64 s.serial, .int .i64 s.kind, .string (bs s.owner)] 39)).heap[wr.heap.size]? = some (.cells #[.int .i64 s.gate, .int .i64 s.number, .int .i64 s.time, .int .i64 s.serial, .int .i64 s.kind, .string (bs s.owner)] 39 (0, 0))) := World.alloc_heap_new wr _
                go_upto_region 18 with fail
                generalize (wr.alloc (.cells #[.int .i64 s.gate, .int .i64 s.number, .int .i64 s.time, .int .i64 s.serial, .int .i64 s.kind, .string (bs s.owner)] 39)) = w13 at *
                have x0 : w13.cell? ⟨wr.heap.size, 0, none⟩ = some (.int .i64 s.gate) := cell_of_row (j := 0) _ _ _ _ _ HX1.out
                have x1 : w13.cell? ⟨wr.heap.size, 1, none⟩ = some (.int .i64 s.number) := cell_of_row (j := 1) _ _ _ _ _ HX1.out
                have x2 : w13.cell? ⟨wr.heap.size, 2, none⟩ = some (.int .i64 s.time) := cell_of_row (j := 2) _ _ _ _ _ HX1.out
                have x3 : w13.cell? ⟨wr.heap.size, 3, none⟩ = some (.int .i64 s.serial) := cell_of_row (j := 3) _ _ _ _ _ HX1.out
                have x4 : w13.cell? ⟨wr.heap.size, 4, none⟩ = some (.int .i64 s.kind) := cell_of_row (j := 4) _ _ _ _ _ HX1.out
                have x5 : w13.cell? ⟨wr.heap.size, 5, none⟩ = some (.string (bs s.owner)) := cell_of_row (j := 5) _ _ _ _ _ HX1.out
                have HB1' := Lib.hid (HB.out.below HA.out)
                have HV1' := Lib.hid (HV.out.next HA.out)
                clear c0 c1 c2 c3 c4 c5 HB
                by_cases hk : s.kind = 1
                · go_upto_region 19 with fail
                  have z8 : w13.cell? ⟨w1.heap.size + 1, 0, none⟩ = some (.map (some w1.heap.size)) := cell_of_row (j := 0) _ _ _ _ _ ((HA.out.block _ (by have := lt_of_block HZ8.out; have := HBB.out.size; omega)).trans ((HBB.out.block _ (lt_of_block HZ8.out)).trans HZ8.out))
                  have hlook := ((HSI.out.heap (HBB.out.block _ HMW.out)).heap (HA.out.block _ (by have := HMW.out; have := HBB.out.size; omega))).done rfl HSW.out.2.2.2.1
                  obtain ⟨t, ht⟩ : ∃ t, t = sinceS (goneOf gone) s.serial := ⟨_, rfl⟩
                  have HTE := Lib.hid ht
                  rw [← ht] at hlook
                  clear ht
                  have HCASE : Hid (BAt w13 W.heap.size (bl ++ m ++ wayF (goneOf gone) st l j)) := HB1'.out
                  have HLB : Hid (wayStep (goneOf gone) st l j = (if (1 ≤ t ∧ t ≤ 1000000000 ∧ t + st < s.time) then [staleB s t] else []) ++ (if j = 0 then [] else pairB s (scAt l (j - 1)))) := by
                    show _ = _
                    unfold wayStep
                    rw [HSC.out, if_pos hk, ← HTE.out]
                    congr 1
                    by_cases hl : lateB (goneOf gone) st s = true
                    · have := (late_iff.mp hl)
                      rw [← HTE.out] at this
                      rw [if_pos hl, if_pos this.2]
                    · rw [if_neg hl, if_neg]
                      intro h
                      rw [HTE.out] at h
                      exact hl (late_iff.mpr ⟨hk, h⟩)
                  have HBN0 : Hid ((bl ++ m ++ wayF (goneOf gone) st l j).length ≤ 800000) := by show _ ≤ _; rw [List.length_append, List.length_append]; omega
                  go_upto_region 20 with fail
                  obtain ⟨late, hlate⟩ : ∃ b : Bool, b = decide (1 ≤ t ∧ t ≤ 1000000000 ∧ t + st < s.time) := ⟨_, rfl⟩
                  have HLA := Lib.hid hlate
                  clear hlate
                  go_cut [56, 81] from 56 to 123 (fun v56 v81 wx => v56 = .int .i64 j ∧ v81 = .bool late ∧ w13 = wx)
                  case first =>
                    have hc : (1 ≤ t ∧ t ≤ 1000000000 ∧ t + st < s.time) ∨ t < 1 ∨ (1 ≤ t ∧ 1000000000 < t) ∨ (1 ≤ t ∧ t ≤ 1000000000 ∧ s.time ≤ t + st) := by omega
                    rcases hc with ⟨h1, h2, h3⟩ | h1 | ⟨h1, h2⟩ | ⟨h1, h2, h3⟩
                    · have e : late = true := by rw [HLA.out]; exact decide_eq_true ⟨h1, h2, h3⟩
                      subst e
                      go_wp2_with fail
                      go_meet
                      exact ⟨rfl, rfl, rfl⟩
                    · have e : late = false := by rw [HLA.out]; exact decide_eq_false (by omega)
                      subst e
                      go_wp2_with fail
                      go_meet
                      exact ⟨rfl, rfl, rfl⟩
                    · have e : late = false := by rw [HLA.out]; exact decide_eq_false (by omega)
                      subst e
                      go_wp2_with fail
                      go_meet
                      exact ⟨rfl, rfl, rfl⟩
                    · have e : late = false := by rw [HLA.out]; exact decide_eq_false (by omega)
                      subst e
                      have b3 : decide (t + st < s.time) = false := decide_eq_false (by omega)
                      go_wp2_with fail
                      go_meet
                      exact ⟨rfl, rfl, rfl⟩
                  case rest =>
                    obtain ⟨rfl, rfl, rfl⟩ := hcut
                    go_upto_if 81 with fail
                    go_cut [56] from 56 to 123 (fun v56 wx => v56 = .int .i64 j ∧ ∃ L0 : List Blm, L0.length ≤ 1 ∧ Hid (wayStep (goneOf gone) st l j = L0 ++ (if j = 0 then [] else pairB s (scAt l (j - 1)))) ∧ Hid (BAt wx W.heap.size (bl ++ m ++ wayF (goneOf gone) st l j ++ L0)) ∧ Hid (UpdB W.heap.size w12 wx) ∧ Hid (wx.heap[wr.heap.size]? = some (.cells #[.int .i64 s.gate, .int .i64 s.number, .int .i64 s.time, .int .i64 s.serial, .int .i64 s.kind, .string (bs s.owner)] 39 (0, 0))))
                    case first =>
                      cases late
                      · have HN : Hid (wayStep (goneOf gone) st l j = [] ++ (if j = 0 then [] else pairB s (scAt l (j - 1)))) := by
                          show _ = _
                          rw [HLB.out, if_neg (of_decide_eq_false HLA.out.symm)]
                        have HBN : Hid (BAt w13 W.heap.size (bl ++ m ++ wayF (goneOf gone) st l j ++ [])) := by show BAt _ _ _; rw [List.append_nil]; exact HB1'.out
                        go_wp2_with fail
                        go_meet
                        exact ⟨rfl, [], by simp, HN, HBN, HV1', HX1⟩
                      · have HN : Hid (wayStep (goneOf gone) st l j = [staleB s t] ++ (if j = 0 then [] else pairB s (scAt l (j - 1)))) := by
                          show _ = _
                          rw [HLB.out, if_pos (of_decide_eq_true HLA.out.symm)]
                        have hbb := blame_any w13 W.heap.size _ 4 (-1) t s HB1'.out (by have := HBN0.out; omega)
                        rw [hk] at hbb
                        have HBB3 := Lib.hid hbb
                        clear hbb
                        go_wp2_with fail
                        refine HBB3.out.mono ?_
                        rintro e wv ⟨rfl, hb, hu⟩
                        have HBV := Lib.hid hb
                        have HVV := Lib.hid (HV1'.out.trans hu)
                        have HXV := Lib.hid (hu.cells HX1.out (by decide) (by decide))
                        clear hb hu HBB3 x0 x1 x2 x3 x4 x5 z8 hlook
                        go_wp2_with fail
                        go_meet
                        exact ⟨rfl, [staleB s t], by simp, HN, HBV, HVV, HXV⟩
                    case rest =>
                      clear HLB HLA x0 x1 x2 x3 x4 x5 z8 hlook HB1' HV1' HX1 HA
                      obtain ⟨rfl, L0, hl0, HLB, HBV, HVV, HXV⟩ := hcut
                      have HSV : Hid (wr.heap.size + 1 ≤ wc.heap.size) := lt_of_block HXV.out
                      go_upto_region 22 with fail
                      have HRV := Lib.hid (HROW.out.updB HVV.out)
                      clear hsV
                      by_cases hj0 : j = 0
                      · have HWS : Hid (bl ++ m ++ wayF (goneOf gone) st l (j + 1) = bl ++ m ++ wayF (goneOf gone) st l j ++ L0) := by
                          show _ = _
                          rw [HWN.out, HLB.out, if_pos hj0, List.append_nil]
                          simp only [List.append_assoc]
                        subst hj0
                        go_wp2_with fail
                        go_roundw
                        case rel => exact ⟨0 + 1, by go_num, by omega, by rw [HWS.out]; exact HBV.out, HVV.out⟩
                        case measure => simp [intOf]; omega
                      · obtain ⟨i, hi⟩ : ∃ i, j = i + 1 := ⟨j - 1, by omega⟩
                        have hji : (j : Int) - 1 = (i : Int) := by omega
                        have hiq : i < q := by omega
                        have hj0' : ((j : Int) == 0) = false := by simp; omega
                        have hie : i < l.length := by rw [HQ.out]; exact hiq
                        obtain ⟨c0, c1, c2, c3, c4, c5⟩ := scn_cells HRV.out i (i * 6) rfl (List.getElem?_eq_getElem hie)
                        have HSP := Lib.hid (scAt_get hie)
                        generalize l[i] = p at *
                        have HPB : Hid (wayF (goneOf gone) st l (j + 1) = wayF (goneOf gone) st l j ++ (L0 ++ pairB s p)) := by
                          show _ = _
                          rw [HWN.out, HLB.out, if_neg hj0, show j - 1 = i from by omega, HSP.out]
                        clear hie HSP HWN HLB hj0
                        by_cases hkp : p.kind = 1
                        · go_upto_region 23 with fail
                          have HA5 := Lib.hid (Joins.below_alloc1 wc (.cells #[.int .i64 p.gate, .int .i64 p.number, .int .i64 p.time, .int .i64 p.serial, .int .i64 1, .string (bs p.owner)] 39))
                          have HX5 : Hid ((wc.alloc (.cells #[.int .i64 p.gate, .int .i64 p.number, .int .i64 p.time, .int .i64 p.serial, .int .i64 1, .string (bs p.owner)] 39)).heap[wc.heap.size]? = some (.cells #[.int .i64 p.gate, .int .i64 p.number, .int .i64 p.time, .int .i64 p.serial, .int .i64 1, .string (bs p.owner)] 39 (0, 0))) := World.alloc_heap_new wc _
                          go_upto_region 24 with fail
                          generalize (wc.alloc (.cells #[.int .i64 p.gate, .int .i64 p.number, .int .i64 p.time, .int .i64 p.serial, .int .i64 1, .string (bs p.owner)] 39)) = w15 at *
                          have y0 : w15.cell? ⟨wc.heap.size, 0, none⟩ = some (.int .i64 p.gate) := cell_of_row (j := 0) _ _ _ _ _ HX5.out
                          have y1 : w15.cell? ⟨wc.heap.size, 1, none⟩ = some (.int .i64 p.number) := cell_of_row (j := 1) _ _ _ _ _ HX5.out
                          have HXW5 : Hid (w15.heap[wr.heap.size]? = some (.cells #[.int .i64 s.gate, .int .i64 s.number, .int .i64 s.time, .int .i64 s.serial, .int .i64 s.kind, .string (bs s.owner)] 39 (0, 0))) := (HA5.out.block _ (by have := HSV.out; omega)).trans HXV.out
                          have x0 : w15.cell? ⟨wr.heap.size, 0, none⟩ = some (.int .i64 s.gate) := cell_of_row (j := 0) _ _ _ _ _ HXW5.out
                          have x1 : w15.cell? ⟨wr.heap.size, 1, none⟩ = some (.int .i64 s.number) := cell_of_row (j := 1) _ _ _ _ _ HXW5.out
                          have x2 : w15.cell? ⟨wr.heap.size, 2, none⟩ = some (.int .i64 s.time) := cell_of_row (j := 2) _ _ _ _ _ HXW5.out
                          have x3 : w15.cell? ⟨wr.heap.size, 3, none⟩ = some (.int .i64 s.serial) := cell_of_row (j := 3) _ _ _ _ _ HXW5.out
                          have x4 : w15.cell? ⟨wr.heap.size, 4, none⟩ = some (.int .i64 s.kind) := cell_of_row (j := 4) _ _ _ _ _ HXW5.out
                          have x5 : w15.cell? ⟨wr.heap.size, 5, none⟩ = some (.string (bs s.owner)) := cell_of_row (j := 5) _ _ _ _ _ HXW5.out
                          have HB5 := Lib.hid (HBV.out.below HA5.out)
                          have HV5 := Lib.hid (HVV.out.next HA5.out)
                          have HBL5 : Hid ((bl ++ m ++ wayF (goneOf gone) st l j ++ L0).length ≤ 900000) := by
                            show _ ≤ _
                            have := HBN0.out
                            rw [List.length_append]
                            omega
                          clear c0 c1 c2 c3 c4 c5
                          by_cases hgg : p.gate = s.gate
                          · have b_gg : (p.gate != s.gate) = false := by simp [hgg]
                            have HGG := Lib.hid hgg
                            clear hgg
                            by_cases hnn : p.number = s.number
                            · have HWS : Hid (bl ++ m ++ wayF (goneOf gone) st l (j + 1) = bl ++ m ++ wayF (goneOf gone) st l j ++ L0) := by
                                show _ = _
                                rw [HPB.out]
                                unfold pairB
                                rw [if_pos hkp, if_pos HGG.out, if_pos hnn, List.append_nil]
                                simp only [List.append_assoc]
                              go_wp2_with fail
                              go_roundw
                              case rel => exact ⟨j + 1, by go_num, by omega, by rw [HWS.out]; exact HB5.out, HV5.out⟩
                              case measure => simp [intOf]; omega
                            · have HWS : Hid (bl ++ m ++ wayF (goneOf gone) st l (j + 1) = bl ++ m ++ wayF (goneOf gone) st l j ++ L0 ++ [fork2B s p]) := by
                                show _ = _
                                rw [HPB.out]
                                unfold pairB
                                rw [if_pos hkp, if_pos HGG.out, if_neg hnn]
                                simp only [List.append_assoc]
                              have hbb := blame_any w15 W.heap.size _ 2 p.gate p.number s HB5.out HBL5.out
                              rw [hk] at hbb
                              have HBB2 := Lib.hid hbb
                              clear hbb
                              go_wp2_with fail
                              refine HBB2.out.mono ?_
                              rintro e w16 ⟨rfl, hb, hu⟩
                              have HB6 := Lib.hid hb
                              have HV6 := Lib.hid (HV5.out.trans hu)
                              clear hb hu HBB2 x0 x1 x2 x3 x4 x5 y0 y1
                              go_wp2_with fail
                              go_roundw
                              case rel => exact ⟨j + 1, by go_num, by omega, by rw [HWS.out]; exact HB6.out, HV6.out⟩
                              case measure => simp [intOf]; omega
                          · have HWS : Hid (bl ++ m ++ wayF (goneOf gone) st l (j + 1) = bl ++ m ++ wayF (goneOf gone) st l j ++ L0 ++ [copyB s p]) := by
                              show _ = _
                              rw [HPB.out]
                              unfold pairB
                              rw [if_pos hkp, if_neg hgg]
                              simp only [List.append_assoc]
                            have hbb := blame_any w15 W.heap.size _ 1 p.gate p.number s HB5.out HBL5.out
                            rw [hk] at hbb
                            have HBB2 := Lib.hid hbb
                            clear hbb
                            go_wp2_with fail
                            refine HBB2.out.mono ?_
                            rintro e w16 ⟨rfl, hb, hu⟩
                            have HB6 := Lib.hid hb
                            have HV6 := Lib.hid (HV5.out.trans hu)
                            clear hb hu HBB2 x0 x1 x2 x3 x4 x5 y0 y1
                            go_wp2_with fail
                            go_roundw
                            case rel => exact ⟨j + 1, by go_num, by omega, by rw [HWS.out]; exact HB6.out, HV6.out⟩
                            case measure => simp [intOf]; omega
                        · have HWS : Hid (bl ++ m ++ wayF (goneOf gone) st l (j + 1) = bl ++ m ++ wayF (goneOf gone) st l j ++ L0) := by
                            show _ = _
                            rw [HPB.out]
                            unfold pairB
                            rw [if_neg hkp, List.append_nil]
                            simp only [List.append_assoc]
                          have b_k : (p.kind != 1) = true := by simp [hkp]
                          go_wp2_with fail
                          go_roundw
                          case rel => exact ⟨j + 1, by go_num, by omega, by rw [HWS.out]; exact HBV.out, HVV.out⟩
                          case measure => simp [intOf]; omega
                · have HWS : Hid (wayF (goneOf gone) st l (j + 1) = wayF (goneOf gone) st l j) := by
                    show _ = _
                    rw [HWN.out]
                    unfold wayStep
                    rw [HSC.out, if_neg hk, List.append_nil]
                  go_wp2_with fail
                  go_roundw
                  case rel => exact ⟨j + 1, by go_num, by omega, by rw [HWS.out]; exact HB1'.out, HV1'.out⟩
                  case measure => simp [intOf]; omega
              · have hj' : j = q := by omega
                subst hj'
                have hrg2 := hrg1.of_walks (keeps_updB HV.out)
                have HG4 := HG3.out.updB HV.out
                go_wp2_with fail
                refine ⟨⟨_, cnt1, m ++ wayS (goneOf gone) st x k, hrg2, HNW.out, ?_, HU3.out.trans HV.out, HG4, ?_⟩, by rw [hrg2.left_eq, hrg.left_eq]; exact HLT.out⟩
                · show BAt _ _ _
                  rw [HWL.out, ← List.append_assoc]
                  exact HB.out
                · have := way_len (goneOf gone) st l j
                  rw [HWL.out, List.length_append]
                  omega
      · intro k c kl yd yp w9 cnt1 hkl hlx hR hat hrg1 hlt hg1 hs1 hen
        obtain ⟨k', hk', rfl, hlk, _⟩ := came_grp hkl hR hat
        cases hk'
        have HG3 := Lib.hid (HG.out.iter hrg hg1)
        have HBA3 := Lib.hid (HBA.out.iter hrg hg1)
        have HU3 : Hid (UpdB W.heap.size W7 w9) := HU.out.grown hg1 (fun b e => by cases e; omega)
        obtain ⟨g, cc, hc, hp, hrow⟩ := HG3.out.came hlk
        have hc : c = .slice (some ⟨g, 0, none⟩) (gateL x k).length cc := hc
        subst hc
        have hlen : (gateL x k).length ≤ 100 := Nat.le_trans (List.length_filter_le _ _) hmn
        have HNW : Hid (Got E (fun z => left z && !z.sameKey (.int .i64 k)) (fun k b => b ∈ gateS x k) (bl ++ gateS x k)) := got_next HP.out (by rw [hlk]; simp) fun b => Iff.rfl
        have HGA := Lib.hid (gate_any w9 g (gateL x k).length cc W.heap.size (gateL x k) bl k hrow rfl hp (by omega) (fun s hs => (gate_mem.mp hs).2) (fun s hs => HWX.out s (gate_mem.mp hs).1) HBA3.out (by have := HE.out; omega))
        have HLN := Lib.hid (gateF_len (gateL x k) k)
        have HLE := Lib.hid hlen
        have HLT := Lib.hid hlt
        obtain ⟨q, hq⟩ : ∃ q, (gateL x k).length = q := ⟨_, rfl⟩
        rw [hq] at hen HGA HLN HLE ⊢
        clear hat hkl hR hlk hlx hrow hp hlen hq HP HG HBA HU hs1 hg1
        go_wp2_with fail
        refine HGA.out.mono ?_
        rintro e w10 ⟨rfl, hb10, hu10⟩
        have HB10 := Lib.hid hb10
        have HU10 := Lib.hid (HU3.out.trans hu10)
        have HG10 := Lib.hid (HG3.out.updB hu10)
        have hrg10 := hrg1.of_walks (keeps_updB hu10)
        clear hb10 hu10
        go_wp2_with fail
        exact ⟨⟨_, cnt1, bl ++ gateS x k, hrg10, HNW.out, HB10.out, HU10.out, HG10.out, by have := HLN.out; have := HLE.out; rw [List.length_append]; unfold gateS; omega⟩, by rw [hrg10.left_eq, hrg.left_eq]; exact hlt⟩
end Go.Proofs.Ytpmoelkblngamaa
