/- refund.Refunds.Back, Charge: the walks. -/
import Derived.Test.YtgpmhaeiccljaaaDoorRP
import Derived.Test.YtgpmhaeiccljaaaDoorRB
namespace Go.Proofs.YtgpmhaeiccljaaaDoor
open Go.RowKit Go.IntWalk

/-- What a charge returns: the amount that is lost, and an error. -/
def lostS (l : List MeanT) (n : Name) : Int × Int := if ofS l n = 0 then (0, 11) else (ofS l n, 0)

theorem cell_set0 (w : World) (g : Nat) (u v : Value) (T : TypeId) (h : w.heap[g]? = some (.cells #[u] T (0, 0))) : (w.setCell ⟨g, 0, none⟩ v).heap[g]? = some (.cells #[v] T (0, 0)) := by
  simp [World.setCell, Array.getElem?_modify, h]

/-- The refunds with what is left of them anew. -/
theorem RefAt.set {w : World} {B g : Nat} {l l' : List MeanT} {la : Option Addr} {k c : Nat} (h : RefAt w B g l) (ho : OwnRecs MeanE w B 46 la k l') : RefAt (w.setCell ⟨g, 0, none⟩ (.slice la k c)) B g l' := by
  obtain ⟨la0, k0, c0, hb, hB, _⟩ := h
  refine ⟨la, k, c, cell_set0 w g _ _ _ hb, hB, ho.1, fun hk => ?_⟩
  obtain ⟨g', e, hg', hr⟩ := ho.2 hk
  refine ⟨g', e, hg', hr.apart g 0 _ ?_⟩
  rintro rfl
  obtain ⟨arr, ha, _⟩ := hr
  rw [hb] at ha
  simp at ha

theorem RefAt.below {w w' : World} {B g : Nat} {l : List MeanT} (h : RefAt w B g l) (hb : Below w.heap.size w w') : RefAt w' B g l := by
  obtain ⟨la, k, c, hh, hB, ho⟩ := h
  exact ⟨la, k, c, (hb.block g (lt_of_block hh)).trans hh, hB, ho.below hb⟩

theorem OwnRecs.low {w : World} {B B' : Nat} {T : TypeId} {la : Option Addr} {n : Nat} {l : List MeanT} (h : OwnRecs MeanE w B T la n l) (hb : B' ≤ B) : OwnRecs MeanE w B' T la n l :=
  ⟨h.1, fun hn => let ⟨g, e, hg, hr⟩ := h.2 hn; ⟨g, e, Nat.le_trans hb hg, hr⟩⟩

theorem OwnRecs.apart {w : World} {B g o : Nat} {T : TypeId} {la : Option Addr} {n : Nat} {l : List MeanT} {v : Value} (h : OwnRecs MeanE w B T la n l) (hg : g < B) : OwnRecs MeanE (w.setCell ⟨g, o, none⟩ v) B T la n l :=
  ⟨h.1, fun hn => let ⟨g', e, hg', hr⟩ := h.2 hn; ⟨g', e, hg', hr.apart g o v (by omega)⟩⟩

theorem RefAt.le {w : World} {B g : Nat} {l : List MeanT} (h : RefAt w B g l) : B ≤ g ∧ g < w.heap.size := by
  obtain ⟨_, _, _, hh, hB, _⟩ := h
  exact ⟨hB, lt_of_block hh⟩

theorem box_cell {w : World} {g : Nat} {u : Value} {T : TypeId} (h : w.heap[g]? = some (.cells #[u] T (0, 0))) : w.cell? ⟨g, 0, none⟩ = some u := by rw [cell_of_row _ _ _ _ _ _ h]; rfl
theorem box_free {w : World} {g : Nat} {u : Value} {T : TypeId} (h : w.heap[g]? = some (.cells #[u] T (0, 0))) : w.frozen? ⟨g, 0, none⟩ = false := by simp only [World.frozen?, h]; simp
theorem box_below {w w' : World} {g : Nat} {u : Value} {T : TypeId} (h : w.heap[g]? = some (.cells #[u] T (0, 0))) (hb : Below w.heap.size w w') : w'.heap[g]? = some (.cells #[u] T (0, 0)) := (hb.block g (lt_of_block h)).trans h

theorem RefAt.open {w : World} {B g : Nat} {l : List MeanT} (h : RefAt w B g l) : ∃ la k c, w.heap[g]? = some (.cells #[.slice la k c] 59 (0, 0)) ∧ Means w la k l := by
  obtain ⟨la, k, c, hh, _, ho⟩ := h
  exact ⟨la, k, c, hh, ho.recs⟩

theorem mpart_len (l : List MeanT) (a : Int) : (mpartS l a).1.length ≤ l.length := by
  unfold mpartS
  split
  · simp
  · split
    · simp
    · split
      · simp
      · have := (some_sub (l.map (·.1)) (splitS a (wts l))).length_le
        simpa [partList] using this

/-- A list of the call's own and an error; what is left, anew. -/
def BackPost (r : List MeanT × Int) (l' : List MeanT) (B g : Nat) (w : World) (e : Ending) (w' : World) : Prop :=
  ∃ la k c, e = .returned (.tuple #[.slice la k c, .int .i64 r.2]) ∧ w.grownBy w' (some g) ∧ OwnRecs MeanE w' w.heap.size 46 la k r.1 ∧ RefAt w' B g l'

set_option maxRecDepth 10000 in
set_option maxHeartbeats 800000 in
theorem back_any (B g : Nat) (l : List MeanT) (a : Int) (w : World) (h : RefAt w B g l) (hg : Good l) (hn : l.length ≤ 30) :
    Calls Tryd.prog 23 #[.pointer (some ⟨g, 0, none⟩), .int .i64 a] w (BackPost (mpartS l a) (backS l a) B g w) := by
  have HA := Lib.hid h
  have HG := Lib.hid hg
  obtain ⟨la, k, c, hh, hM⟩ := h.open
  have HH := Lib.hid hh
  have x0 := box_cell hh
  have hlen := hM.1
  have HM := Lib.hid hM
  clear h hg hM hh
  go_enter Tryd.func23, Tryd.ntmps23
  go_wp2_with fail
  refine (mpart_any la k c l a w HM.out HG.out (by omega)).mono ?_
  rintro e w1 ⟨lb, kb, cb, rfl, hb1, ho1⟩
  have HB1 := Lib.hid hb1
  have HO1 := Lib.hid ho1
  have HA1 := Lib.hid (HA.out.below hb1)
  obtain ⟨er, her⟩ : ∃ er, (mpartS l a).2 = er := ⟨_, rfl⟩
  rw [her]
  clear hb1 ho1 x0
  by_cases h0 : er = 0
  · subst h0
    have HBS : Hid (backS l a = takeS l (mpartS l a).1) := by show _ = _; unfold backS; rw [if_pos her]
    have hkb : kb ≤ 30 := by have := HO1.out.1; have := mpart_len l a; omega
    have HH1 := Lib.hid (box_below HH.out HB1.out)
    have x0 := box_cell HH1.out
    go_wp2_with fail
    refine (less_any la lb k kb c cb l (mpartS l a).1 w1 (HM.out.below HB1.out) HO1.out.recs HG.out (mpart_partOf HG.out) (by omega) (by omega)).mono ?_
    rintro e w2 ⟨lc, kc, cc, rfl, hb2, ho2⟩
    have HA2 := Lib.hid (HA1.out.below hb2)
    have HO2 := Lib.hid (HO1.out.below hb2)
    have HN2 := Lib.hid (HA2.out.set (c := cc) (ho2.low (by have := HB1.out.size; have := HA.out.le; omega)))
    have HB2 := Lib.hid (HB1.out.trans (hb2.mono HB1.out.size))
    have HH2 := Lib.hid (box_below HH1.out hb2)
    have HL2 := Lib.hid ho2.1
    clear x0 hb2 ho2
    have x0 := box_cell HH2.out
    have f0 := box_free HH2.out
    have hgl := HA.out.le
    go_wp2_with fail
    go_ret2
    exact ⟨lb, kb, cb, by rw [her]; rfl, (grown_below HB2.out _).trans (grown_cell _ _ _), HO2.out.apart hgl.2, by rw [HBS.out]; exact HN2.out⟩
  · have HBS : Hid (backS l a = l) := by show _ = _; unfold backS; rw [if_neg (by rw [her]; exact h0)]
    go_wp2_with fail
    go_ret2
    exact ⟨lb, kb, cb, by rw [her]; rfl, grown_below HB1.out _, HO1.out, by rw [HBS.out]; exact HA1.out⟩

theorem hcfc (args : Array Value) (w : World) : (callFunc 36 args).run Tryd.prog w = .ok (.enter 36 args) w := enters_of Tryd.func36 (by kernel_rfl) rfl args w

theorem flat_one_mean (x : MeanT) {W : World} {b : Nat} (h : W.heap[b]? = some (.cells #[.string (bs x.1), .int .i64 x.2] 46 (0, 0))) : Means W (some ⟨b, 0, none⟩) 1 [x] := by
  refine ⟨rfl, fun i hi => ⟨b, 0, rfl, fun j hj => ?_⟩⟩
  obtain rfl : i = 0 := by omega
  rw [cell_of_row _ _ _ _ _ _ h, rc_eq _ _ (by simp)]
  match j, hj with
  | 0, _ => rfl
  | 1, _ => rfl

/-- An amount and an error; what is left, anew. -/
def ChgPost (r : Int × Int) (l' : List MeanT) (B g : Nat) (w : World) (e : Ending) (w' : World) : Prop :=
  e = .returned (.tuple #[.int .i64 r.1, .int .i64 r.2]) ∧ w.grownBy w' (some g) ∧ RefAt w' B g l'

set_option maxRecDepth 10000 in
set_option maxHeartbeats 800000 in
theorem charge_any (B g : Nat) (l : List MeanT) (t : Name) (w : World) (h : RefAt w B g l) (hg : Good l) (hn : l.length ≤ 30) :
    Calls Tryd.prog 24 #[.pointer (some ⟨g, 0, none⟩), .string (bs t)] w (ChgPost (lostS l t) (chgS l t) B g w) := by
  have HA := Lib.hid h
  have HG := Lib.hid hg
  obtain ⟨la, k, c, hh, hM⟩ := h.open
  have HB1 := Lib.hid (Joins.below_alloc1 w (.cells #[.string (bs t)] 9))
  have HX : Hid ((w.alloc (.cells #[.string (bs t)] 9)).heap[w.heap.size]? = some (.cells #[.string (bs t)] 9 (0, 0))) := World.alloc_heap_new w _
  have HA1 := Lib.hid (h.below HB1.out)
  have HH1 := Lib.hid (box_below hh HB1.out)
  have HM1 := Lib.hid (hM.below HB1.out)
  have hlen := hM.1
  have hgl := HA.out.le
  clear h hg hM hh
  go_enter Tryd.func24, Tryd.ntmps24
  go_upto_region 1 with fail
  obtain ⟨bx, hbx⟩ : ∃ bx, w.heap.size = bx := ⟨_, rfl⟩
  rw [hbx] at HX hgl
  rw [hbx]
  generalize w.alloc (.cells #[.string (bs t)] 9) = w1 at *
  have HBX := Lib.hid hbx
  clear hbx
  have x0 := box_cell HH1.out
  have x1 := box_cell HX.out
  go_wp2_with fail
  refine (index_means 36 #[.pointer (some ⟨bx, 0, none⟩)] (fun x => decide (x.1 = t)) la k c l w1 (by omega) hcfc HM1.out (fun q wr hb _ => charge1_any (nm l q, am l q) bx t wr (Below.cell_of hb x1))).mono ?_
  rintro e w2 ⟨rfl, hb2⟩
  have HB2 := Lib.hid (HB1.out.trans (hb2.mono HB1.out.size))
  have HA2 := Lib.hid (HA1.out.below hb2)
  have HH2 := Lib.hid (box_below HH1.out hb2)
  have HM2 := Lib.hid (HM1.out.below hb2)
  clear hb2 x0 x1 HX
  rcases has_name HG.out t with ⟨hz, hno⟩ | ⟨i, hi, hne, hof, hpos⟩
  · have HR : Hid (lostS l t = (0, 11) ∧ chgS l t = l) := ⟨by unfold lostS; rw [if_pos hz], by unfold chgS; rw [if_pos hz]⟩
    have hf := no_name t hno
    rw [hlen] at hf
    rw [show firstAt (fun k => decide ((nm l k, am l k).fst = t)) 0 k = -1 from hf]
    clear hf hz hno
    go_wp2_with fail
    go_ret2
    exact ⟨by rw [HR.out.1]; rfl, grown_below HB2.out _, by rw [HR.out.2]; exact HA2.out⟩
  · have hne0 : ofS l t ≠ 0 := by omega
    have HR : Hid (lostS l t = (am l i, 0) ∧ chgS l t = takeS l [(nm l i, am l i)]) := ⟨by unfold lostS; rw [if_neg hne0, hof], by unfold chgS; rw [if_neg hne0, hof, hne]⟩
    have hf := first_name HG.out.diff i hi t hne
    rw [hlen] at hf
    rw [show firstAt (fun k => decide ((nm l k, am l k).fst = t)) 0 k = i from hf]
    have hle := HG.out.le i hi
    clear hf hne hof hne0 hpos
    have x0 := box_cell HH2.out
    obtain ⟨b, oo, rfl, c0, c1⟩ := Means.at HM2.out i (by omega)
    go_upto_region 7 with fail
    have HB3 := Lib.hid (HB2.out.trans ((Joins.below_alloc1 w2 (.cells #[.string (bs (nm l i)), .int .i64 (am l i)] 46)).mono HB2.out.size))
    have hba := Joins.below_alloc1 w2 (.cells #[.string (bs (nm l i)), .int .i64 (am l i)] 46)
    have HA3 := Lib.hid (HA2.out.below hba)
    have HH3 := Lib.hid (box_below HH2.out hba)
    have HM3 := Lib.hid (HM2.out.below hba)
    have HX : Hid (Boxed2 (w2.alloc (.cells #[.string (bs (nm l i)), .int .i64 (am l i)] 46)) w2.heap.size (.string (bs (nm l i))) (.int .i64 (am l i))) := World.alloc_heap_new w2 _
    have hs2 := HB2.out.size
    clear hba
    obtain ⟨b7, hb7⟩ : ∃ b7, w2.heap.size = b7 := ⟨_, rfl⟩
    rw [hb7] at HX hs2
    rw [hb7]
    generalize w2.alloc (.cells #[.string (bs (nm l i)), .int .i64 (am l i)] 46) = w3 at *
    clear x0 c0 c1 hb7
    have x0 := box_cell HH3.out
    have y0 := HX.out.c0
    have y1 := HX.out.c1
    obtain ⟨wn, hwn⟩ : ∃ wn, wn = w3.drew.alloc (.cells #[.string (bs (nm l i)), .int .i64 (am l i)] 46) := ⟨_, rfl⟩
    have hbn : Below w3.heap.size w3 wn := by rw [hwn]; exact ((Below.refl _ _).drew).alloc (Nat.le_refl _) _
    have hnew : wn.heap[w3.heap.size]? = some (.cells #[.string (bs (nm l i)), .int .i64 (am l i)] 46 (0, 0)) := by rw [hwn]; exact World.alloc_heap_new w3.drew _
    have HC := Lib.hid (less_any (some ⟨b, oo, none⟩) (some ⟨w3.heap.size, 0, none⟩) k 1 c 1 l [(nm l i, am l i)] wn (HM3.out.below hbn) (flat_one_mean (nm l i, am l i) hnew) HG.out (one_partOf HG.out i hi) (by omega) (by omega))
    have HBN := Lib.hid hbn
    have xa : ∀ o, (w3.alloc o).cell? ⟨g, 0, none⟩ = some (.slice (some ⟨b, oo, none⟩) k c) := fun o => box_cell (box_below HH3.out (Joins.below_alloc1 w3 o))
    rw [hwn] at HC
    have hs3 := HB3.out.size
    clear hbn hnew
    go_region_with (go_at_call 34; refine HC.out.mono ?_; rintro e w4 ⟨lc, kc, cc, rfl, hb4, ho4⟩; rw [← hwn] at hb4 ho4; have HB4 := Lib.hid hb4; have HO4 := Lib.hid ho4; clear hb4 ho4; have z0 := box_cell (box_below HH3.out (HBN.out.trans (HB4.out.mono HBN.out.size))); have zf := box_free (box_below HH3.out (HBN.out.trans (HB4.out.mono HBN.out.size))))
    all_goals
      have y2 : w4.cell? ⟨b7, 1, none⟩ = some (.int .i64 (am l i)) := (HX.out.step (HBN.out.trans (HB4.out.mono HBN.out.size))).c1
      have hg7 : b7 ≠ g := by have := HBX.out; omega
      have HF : Hid (w.grownBy (w4.setCell ⟨g, 0, none⟩ (.slice lc kc cc)) (some g) ∧ RefAt (w4.setCell ⟨g, 0, none⟩ (.slice lc kc cc)) B g (chgS l t)) := by
        have hbl := HBN.out.trans (HB4.out.mono HBN.out.size)
        refine ⟨(grown_below (HB3.out.trans (hbl.mono HB3.out.size)) _).trans (grown_cell _ _ _), ?_⟩
        rw [HR.out.2]
        exact (HA3.out.below hbl).set (c := cc) (HO4.out.low (by have := HBN.out.size; have := HBX.out; omega))
      go_wp2_with fail
      go_ret2
      exact ⟨by rw [HR.out.1]; rfl, HF.out⟩
end Go.Proofs.YtgpmhaeiccljaaaDoor
