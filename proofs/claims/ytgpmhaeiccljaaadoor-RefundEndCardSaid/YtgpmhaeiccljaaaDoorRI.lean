/- foyerref29.take, Back, Charge: the walks; foyerlaw29.do, few, paid; Back of no refunds: the walks. -/
import Derived.Test.YtgpmhaeiccljaaaDoorRH
namespace Go.Proofs.YtgpmhaeiccljaaaDoor
open Go.RowKit Go.IntWalk

theorem RefAtR.set {w : World} {B g : Nat} {l l' : List MeanT} {la : Option Addr} {k c : Nat} (h : RefAtR w B g l) (ho : OwnRecs MeanE w B 46 la k l') : RefAtR (w.setCell ⟨g, 0, none⟩ (.slice la k c)) B g l' := by
  obtain ⟨la0, k0, c0, hb, hB, _⟩ := h
  refine ⟨la, k, c, cell_set0 w g _ _ _ hb, hB, ho.1, fun hk => ?_⟩
  obtain ⟨g', e, hg', hr⟩ := ho.2 hk
  refine ⟨g', e, hg', hr.apart g 0 _ ?_⟩
  rintro rfl
  obtain ⟨arr, ha, _⟩ := hr
  rw [hb] at ha
  simp at ha

theorem RefAtR.below {w w' : World} {B g : Nat} {l : List MeanT} (h : RefAtR w B g l) (hb : Below w.heap.size w w') : RefAtR w' B g l := by
  obtain ⟨la, k, c, hh, hB, ho⟩ := h
  exact ⟨la, k, c, (hb.block g (lt_of_block hh)).trans hh, hB, ho.below hb⟩

theorem RefAtR.le {w : World} {B g : Nat} {l : List MeanT} (h : RefAtR w B g l) : B ≤ g ∧ g < w.heap.size := by
  obtain ⟨_, _, _, hh, hB, _⟩ := h
  exact ⟨hB, lt_of_block hh⟩

theorem RefAtR.open {w : World} {B g : Nat} {l : List MeanT} (h : RefAtR w B g l) : ∃ la k c, w.heap[g]? = some (.cells #[.slice la k c] 61 (0, 0)) ∧ Means w la k l := by
  obtain ⟨la, k, c, hh, _, ho⟩ := h
  exact ⟨la, k, c, hh, ho.recs⟩

/-- The amounts less by what is taken. -/
def difS (l t : List MeanT) : List Int := l.map fun m => m.2 - ofS t m.1

theorem dif_len (l t : List MeanT) : (difS l t).length = l.length := by simp [difS]
theorem dif_at (l t : List MeanT) (i : Nat) (h : i < l.length) : ix (difS l t) i = am l i - ofS t (nm l i) := by
  rw [ix_eq _ _ (by rw [dif_len]; exact h), am_eq _ _ h, nm_eq _ _ h]
  simp [difS]

set_option maxRecDepth 10000 in
set_option maxHeartbeats 1600000 in
theorem rtake_any (B g : Nat) (l : List MeanT) (rt : Option Addr) (m d : Nat) (t : List MeanT) (w : World) (h : RefAtR w B g l) (hg : Good l) (hn : l.length ≤ 30) (ht : Means w rt m t) (hm : m ≤ 1000) (hr : ∀ i, i < l.length → 0 ≤ ofS t (nm l i) ∧ ofS t (nm l i) ≤ am l i) :
    Calls Tryd.prog 32 #[.pointer (some ⟨g, 0, none⟩), .slice rt m d] w fun e w' => e = .returned (.tuple #[]) ∧ w.grownBy w' (some g) ∧ RefAtR w' B g (takeS l t) := by
  have HA := Lib.hid h
  have HG := Lib.hid hg
  have HT := Lib.hid ht
  have HRR := Lib.hid hr
  obtain ⟨la, k, c, hh, hM⟩ := h.open
  have HH := Lib.hid hh
  have hlen := hM.1
  have HM := Lib.hid hM
  have hps := dif_len l t
  have hgl := HA.out.le
  clear h hg ht hr hh hM
  obtain ⟨i1, hj, hj0, hj1, hj2⟩ := info_parts info_mean
  go_enter Tryd.func32, Tryd.ntmps32
  go_wp2_with fail
  go_loopw [4, 5] (fun v4 v5 wr => ∃ i : Nat, v5 = .int .i64 i ∧ i ≤ k ∧ Hid (Below w.heap.size w wr) ∧ Hid (wr.ownsRow w.heap.size 46 2 v4 (outS l (difS l t) i).length (flat MeanE (outS l (difS l t) i)))) (fun _ v5 _ => k - (intOf v5).toNat)
  case atStart => exact ⟨0, rfl, Nat.zero_le _, Below.refl _ _, World.ownsRow_nil _ _ _ _⟩
  case round =>
    obtain ⟨i, rfl, hi, HB, HO⟩ := hrel
    have HHR := Lib.hid (box_below HH.out HB.out)
    have x0 := box_cell HHR.out
    by_cases hlt : i < k
    · obtain ⟨b, o, rfl, c0, c1⟩ := Means.at (HM.out.below HB.out) i hlt
      have HOF : Hid (∀ q, Calls Tryd.prog 22 #[.slice rt m d, .string (bs (nm l i))] (wr.drewN q) fun e w' => e = .returned (.int .i64 (ofS t (nm l i))) ∧ w' = wr.drewN q) := fun q =>
        (of_any rt m d t (nm l i) (wr.drewN q) (HT.out.below (below_drewN HB.out q)) hm).mono fun e w' ⟨h1, h2⟩ => ⟨h1, h2.symm⟩
      have h1 := HRR.out i (by omega)
      have h2 := HG.out.le i (by omega)
      have HD := Lib.hid (dif_at l t i (by omega))
      have HON := Lib.hid (out_next (l := l) (ps := difS l t) (i := i) (by omega) hps)
      have hol := out_len l (difS l t) i
      obtain ⟨p, hp⟩ : ∃ p, ofS t (nm l i) = p := ⟨_, rfl⟩
      rw [hp] at HOF h1 HD
      clear hp
      go_wp2_with fail
      go_quiet (exact Calls.quiet_of_same (HOF.out _))
      go_upto_region 5 with fail
      have HB5 := Lib.hid (below_drewN HB.out nq)
      have HO5 : Hid ((wr.drewN nq).ownsRow w.heap.size 46 2 u4 (outS l (difS l t) i).length (flat MeanE (outS l (difS l t) i))) := HO.out
      have x5 : (wr.drewN nq).cell? ⟨g, 0, none⟩ = some (.slice (some ⟨b, o, none⟩) k c) := x0
      have c5 : (wr.drewN nq).cell? ⟨b, o + i * 2, none⟩ = some (.string (bs (nm l i))) := c0
      generalize wr.drewN nq = w5 at *
      clear x0 c0 c1 HB HO HHR
      have hsz := HB5.out.size
      rw [HD.out] at HON
      by_cases hp0 : 0 < am l i - p
      · rw [if_pos hp0] at HON
        go_wp2_with (at_builtin; refine wpList_append_own _ rfl _ _ 22 rfl w.heap.size 46 i1 _ 2 24 Tryd.underlying22 hj hj0 hj1 hj2 rfl (by decide) _ _ _ rfl (HO5.out.alloc _) ⟨w5.heap.size, 0, none⟩ 1 1 (MeanE.cells (nm l i, am l i - p)) rfl rfl (mean_new w5 (nm l i, am l i - p)) (MeanE.one _) (by unfold maxLen; omega) (by omega) (by simp; omega) ?_; intro v' w6 hown' hgrow _; have HN := Lib.hid (And.intro hown' hgrow); clear hown' hgrow)
        refine ⟨⟨i + 1, by go_num, hlt, (HB5.out.alloc hsz _).grown HN.out.2 (by simp; omega) (fun k e => (HO5.out.lt k e).1), ?_⟩, by simp [intOf]; omega⟩
        show w6.ownsRow _ _ _ _ _ _
        rw [HON.out, mean_snoc, List.length_append, List.length_singleton]
        exact HN.out.1
      · rw [if_neg hp0, List.append_nil] at HON
        go_wp2_with fail
        refine ⟨⟨i + 1, by go_num, hlt, HB5.out, ?_⟩, by simp [intOf]; omega⟩
        show World.ownsRow _ _ _ _ _ _ _
        rw [HON.out]
        exact HO5.out
    · have hi' : i = k := by omega
      subst hi'
      obtain ⟨lb, cb, rfl, ho⟩ := OwnRecs.of_row HO.out
      have hOA : outS l (difS l t) i = takeS l t := by rw [← hlen, out_all hps]; rfl
      rw [hOA] at ho ⊢
      have HF : Hid (w.grownBy (wr.setCell ⟨g, 0, none⟩ (.slice lb (takeS l t).length cb)) (some g) ∧ RefAtR (wr.setCell ⟨g, 0, none⟩ (.slice lb (takeS l t).length cb)) B g (takeS l t)) :=
        ⟨(grown_below HB.out _).trans (grown_cell _ _ _), (HA.out.below HB.out).set (c := cb) (ho.low (by omega))⟩
      have f0 := box_free HHR.out
      clear ho hOA
      go_wp2_with fail
      go_end0
      exact ⟨rfl, HF.out⟩

/-- A list of the call's own and an error; what is left, anew: the reference's. -/
def BackPostR (r : List MeanT × Int) (l' : List MeanT) (B g : Nat) (w : World) (e : Ending) (w' : World) : Prop :=
  ∃ la k c, e = .returned (.tuple #[.slice la k c, .int .i64 r.2]) ∧ w.grownBy w' (some g) ∧ OwnRecs MeanE w' w.heap.size 46 la k r.1 ∧ RefAtR w' B g l'

theorem back_err {l : List MeanT} {a : Int} (h : (mpartS l a).2 ≠ 0) : backS l a = l := by unfold backS; rw [if_neg h]
theorem back_ok {l : List MeanT} {a : Int} (h : (mpartS l a).2 = 0) : backS l a = takeS l (mpartS l a).1 := by unfold backS; rw [if_pos h]

/-- Rows that a call has made are as they were behind a step that changes one older block alone. -/
theorem OwnRecs.grown {w w' : World} {B g : Nat} {T : TypeId} {la : Option Addr} {n : Nat} {l : List MeanT} (h : OwnRecs MeanE w B T la n l) (hg : w.grownBy w' (some g)) (hl : g < B) : OwnRecs MeanE w' B T la n l :=
  ⟨h.1, fun hn => let ⟨g', e, hg', hr⟩ := h.2 hn; ⟨g', e, hg', hr.grown hg (by simp; omega)⟩⟩

set_option maxRecDepth 10000 in
set_option maxHeartbeats 800000 in
theorem rback_any (B g : Nat) (l : List MeanT) (a : Int) (w : World) (h : RefAtR w B g l) (hg : Good l) (hn : l.length ≤ 30) :
    Calls Tryd.prog 18 #[.pointer (some ⟨g, 0, none⟩), .int .i64 a] w (BackPostR (mpartS l a) (backS l a) B g w) := by
  have HA := Lib.hid h
  have HG := Lib.hid hg
  obtain ⟨la, k, c, hh, hM⟩ := h.open
  have HH := Lib.hid hh
  have x0 := box_cell hh
  have hlen := hM.1
  have HM := Lib.hid hM
  have hgl := HA.out.le
  clear h hg hM hh
  by_cases h0 : a < 0
  · have HR : Hid (mpartS l a = ([], 1)) := by show _ = _; unfold mpartS; rw [if_pos h0]
    have HS : Hid (backS l a = l) := back_err (by rw [HR.out]; decide)
    go_enter Tryd.func18, Tryd.ntmps18
    go_wp2_with fail
    go_ret2
    exact ⟨none, 0, 0, by rw [HR.out]; rfl, grown_refl _ _, by rw [HR.out]; exact OwnRecs.nil, by rw [HS.out]; exact HA.out⟩
  go_enter Tryd.func18, Tryd.ntmps18
  go_wp2_with fail
  refine (rtotal_any la k c l w HM.out (by omega) (fun i hi => by have := HG.out.le i (by omega); omega)).mono ?_
  rintro e w1 ⟨rfl, rfl⟩
  by_cases h1 : totS l < a
  · have HR : Hid (mpartS l a = ([], 19)) := by show _ = _; unfold mpartS; rw [if_neg (by omega), if_pos h1]
    have HS : Hid (backS l a = l) := back_err (by rw [HR.out]; decide)
    go_wp2_with fail
    go_ret2
    exact ⟨none, 0, 0, by rw [HR.out]; rfl, grown_refl _ _, by rw [HR.out]; exact OwnRecs.nil, by rw [HS.out]; exact HA.out⟩
  have HP : Hid ((mpartS l a).2 = 0) := by show _ = _; unfold mpartS; rw [if_neg (by omega), if_neg (by omega)]; split <;> rfl
  have HS : Hid (backS l a = takeS l (mpartS l a).1) := back_ok HP.out
  go_wp2_with fail
  refine (rpart_any la k c l a w HM.out HG.out (by omega) (by omega) (by omega)).mono ?_
  rintro e w2 ⟨lb, kb, cb, rfl, hb2, ho2⟩
  have HB2 := Lib.hid hb2
  have HO2 := Lib.hid ho2
  have HA2 := Lib.hid (HA.out.below hb2)
  have hkb : kb ≤ 30 := by have := ho2.1; have := mpart_len l a; omega
  clear hb2 ho2 x0
  go_wp2_with fail
  refine (rtake_any B g l lb kb cb (mpartS l a).1 w2 HA2.out HG.out hn HO2.out.recs (by omega) (fun i hi => (mpart_partOf HG.out).range HG.out i hi)).mono ?_
  rintro e w3 ⟨rfl, hg3, ha3⟩
  have HG3 := Lib.hid hg3
  have HA3 := Lib.hid ha3
  clear hg3 ha3
  go_wp2_with fail
  go_ret2
  exact ⟨lb, kb, cb, by rw [HP.out]; rfl, (grown_below HB2.out _).trans HG3.out, HO2.out.grown HG3.out hgl.2, by rw [HS.out]; exact HA3.out⟩

def ChgPostR (r : Int × Int) (l' : List MeanT) (B g : Nat) (w : World) (e : Ending) (w' : World) : Prop :=
  e = .returned (.tuple #[.int .i64 r.1, .int .i64 r.2]) ∧ w.grownBy w' (some g) ∧ RefAtR w' B g l'

set_option maxRecDepth 10000 in
set_option maxHeartbeats 800000 in
theorem rcharge_any (B g : Nat) (l : List MeanT) (t : Name) (w : World) (h : RefAtR w B g l) (hg : Good l) (hn : l.length ≤ 30) :
    Calls Tryd.prog 17 #[.pointer (some ⟨g, 0, none⟩), .string (bs t)] w (ChgPostR (lostS l t) (chgS l t) B g w) := by
  have HA := Lib.hid h
  have HG := Lib.hid hg
  obtain ⟨la, k, c, hh, hM⟩ := h.open
  have HH := Lib.hid hh
  have x0 := box_cell hh
  have hlen := hM.1
  have HM := Lib.hid hM
  have hgl := HA.out.le
  clear h hg hM hh
  go_enter Tryd.func17, Tryd.ntmps17
  go_wp2_with fail
  refine (of_any la k c l t w HM.out (by omega)).mono ?_
  rintro e w1 ⟨rfl, rfl⟩
  rcases has_name HG.out t with ⟨hz, hno⟩ | ⟨i, hi, hne, hof, hpos⟩
  · have HR : Hid (lostS l t = (0, 11) ∧ chgS l t = l) := ⟨by unfold lostS; rw [if_pos hz], by unfold chgS; rw [if_pos hz]⟩
    rw [hz]
    clear hz hno
    go_wp2_with fail
    go_ret2
    exact ⟨by rw [HR.out.1]; rfl, grown_refl _ _, by rw [HR.out.2]; exact HA.out⟩
  · have hne0 : ofS l t ≠ 0 := by omega
    have HR : Hid (lostS l t = (am l i, 0) ∧ chgS l t = takeS l [(t, am l i)]) := ⟨by unfold lostS; rw [if_neg hne0, hof], by unfold chgS; rw [if_neg hne0, hof]⟩
    have HPO : Hid (PartOf l [(t, am l i)]) := by have := one_partOf HG.out i hi; rwa [hne] at this
    rw [hof]
    have e1 : (am l i == 0) = false := by simp; omega
    have hb2 := Joins.below_alloc1 w (.cells #[.string (bs t), .int .i64 (am l i)] 46)
    have HB2 := Lib.hid hb2
    have HA2 := Lib.hid (HA.out.below hb2)
    have HX : Hid ((w.alloc (.cells #[.string (bs t), .int .i64 (am l i)] 46)).heap[w.heap.size]? = some (.cells #[.string (bs t), .int .i64 (am l i)] 46 (0, 0))) := World.alloc_heap_new w _
    clear hne hof hne0 hpos hb2
    go_wp2_with fail
    generalize w.alloc (.cells #[.string (bs t), .int .i64 (am l i)] 46) = w2 at *
    refine (rtake_any B g l (some ⟨w.heap.size, 0, none⟩) 1 1 [(t, am l i)] w2 HA2.out HG.out hn (flat_one_mean (t, am l i) HX.out) (by omega) (fun q hq => HPO.out.range HG.out q hq)).mono ?_
    rintro e w3 ⟨rfl, hg3, ha3⟩
    have HG3 := Lib.hid hg3
    have HA3 := Lib.hid ha3
    clear hg3 ha3 x0
    go_wp2_with fail
    go_ret2
    exact ⟨by rw [HR.out.1]; rfl, (grown_below HB2.out _).trans HG3.out, by rw [HR.out.2]; exact HA3.out⟩
end Go.Proofs.YtgpmhaeiccljaaaDoor
namespace Go.Proofs.YtgpmhaeiccljaaaDoor
open Go.RowKit Go.IntWalk

/-- An operation: an amount and a name. -/
abbrev OpT := Int × Name

/-- An operation in memory: two cells. -/
def OpE : Enc OpT 2 := ⟨fun x => [.int .i64 x.1, .string (bs x.2)], fun _ => rfl, fun x v hv => by
  simp only [List.mem_cons, List.not_mem_nil, or_false] at hv
  rcases hv with rfl | rfl <;> rfl, by decide⟩

def oa (l : List OpT) (i : Nat) : Int := (l.getD i (0, [])).1
def on (l : List OpT) (i : Nat) : Name := (l.getD i (0, [])).2

theorem oa_eq (l : List OpT) (i : Nat) (h : i < l.length) : oa l i = l[i].1 := by
  unfold oa; rw [List.getD_eq_getElem?_getD, List.getElem?_eq_getElem h]; rfl
theorem on_eq (l : List OpT) (i : Nat) (h : i < l.length) : on l i = l[i].2 := by
  unfold on; rw [List.getD_eq_getElem?_getD, List.getElem?_eq_getElem h]; rfl

abbrev OpsAt (w : World) (ra : Option Addr) (n : Nat) (l : List OpT) : Prop := Recs OpE w ra n l

theorem OpsAt.at {w : World} {ra : Option Addr} {n : Nat} {l : List OpT} (h : OpsAt w ra n l) (i : Nat) (hi : i < n) : ∃ b o, ra = some ⟨b, o, none⟩ ∧ w.cell? ⟨b, o + i * 2, none⟩ = some (.int .i64 (oa l i)) ∧ w.cell? ⟨b, o + i * 2 + 1, none⟩ = some (.string (bs (on l i))) := by
  obtain ⟨b, o, e, c⟩ := h.2 i hi
  have hl : i < l.length := by rw [h.1]; exact hi
  have c0 := c 0 (by omega)
  have c1 := c 1 (by omega)
  rw [rc_eq _ _ hl] at c0 c1
  exact ⟨b, o, e, by rw [oa_eq _ _ hl]; exact c0, by rw [on_eq _ _ hl]; exact c1⟩

/-! ### What an operation does -/
def doBack (l : List MeanT) (a : Int) (t : Name) : List MeanT := if t = [] then (mpartS l a).1 else []
def doLost (l : List MeanT) (t : Name) : Int := if t = [] then 0 else (lostS l t).1
def doErr (l : List MeanT) (a : Int) (t : Name) : Int := if t = [] then (mpartS l a).2 else (lostS l t).2
def doLeft (l : List MeanT) (a : Int) (t : Name) : List MeanT := if t = [] then backS l a else chgS l t

theorem do_good {l : List MeanT} (h : Good l) (a : Int) (t : Name) : Good (doLeft l a t) := by
  unfold doLeft
  split
  · exact back_good h a
  · exact chg_good h t

theorem back_len (l : List MeanT) (a : Int) : (backS l a).length ≤ l.length := by
  unfold backS
  split
  · exact take_len _ _
  · exact Nat.le_refl _

theorem chg_len (l : List MeanT) (t : Name) : (chgS l t).length ≤ l.length := by
  unfold chgS
  split
  · exact Nat.le_refl _
  · exact take_len _ _

theorem do_len (l : List MeanT) (a : Int) (t : Name) : (doLeft l a t).length ≤ l.length := by
  unfold doLeft
  split
  · exact back_len l a
  · exact chg_len l t

def DoPost (l : List MeanT) (a : Int) (t : Name) (B g : Nat) (w : World) (e : Ending) (w' : World) : Prop :=
  ∃ la k c, e = .returned (.tuple #[.slice la k c, .int .i64 (doLost l t), .int .i64 (doErr l a t)]) ∧ w.grownBy w' (some g) ∧ OwnRecs MeanE w' w.heap.size 46 la k (doBack l a t) ∧ RefAt w' B g (doLeft l a t)

set_option maxRecDepth 10000 in
set_option maxHeartbeats 800000 in
theorem do_any (B g : Nat) (l : List MeanT) (a : Int) (t : Name) (w : World) (h : RefAt w B g l) (hg : Good l) (hn : l.length ≤ 30) :
    Calls Tryd.prog 16 #[.pointer (some ⟨g, 0, none⟩), .agg #[.int .i64 a, .string (bs t)]] w (DoPost l a t B g w) := by
  have HG := Lib.hid hg
  have hb := Joins.below_alloc1 w (.cells #[.int .i64 a, .string (bs t)] 39)
  have HB := Lib.hid hb
  have HA := Lib.hid (h.below hb)
  have HX : Hid ((w.alloc (.cells #[.int .i64 a, .string (bs t)] 39)).heap[w.heap.size]? = some (.cells #[.int .i64 a, .string (bs t)] 39 (0, 0))) := World.alloc_heap_new w _
  have hgl := h.le
  clear h hg hb
  go_enter Tryd.func16, Tryd.ntmps16
  go_upto_region 1 with fail
  obtain ⟨bx, hbx⟩ : ∃ bx, w.heap.size = bx := ⟨_, rfl⟩
  rw [hbx] at HX
  rw [hbx]
  generalize w.alloc (.cells #[.int .i64 a, .string (bs t)] 39) = w1 at *
  have x0 : w1.cell? ⟨bx, 0, none⟩ = some (.int .i64 a) := by rw [cell_of_row _ _ _ _ _ _ HX.out]; rfl
  have x1 : w1.cell? ⟨bx, 1, none⟩ = some (.string (bs t)) := by rw [cell_of_row _ _ _ _ _ _ HX.out]; rfl
  by_cases ht : t = []
  · have HR : Hid (doBack l a t = (mpartS l a).1 ∧ doLost l t = 0 ∧ doErr l a t = (mpartS l a).2 ∧ doLeft l a t = backS l a) := by unfold doBack doLost doErr doLeft; simp [Hid, ht]
    have hbq' : (bs t).toList.isEmpty = true := by rw [bs_toList, ht]; rfl
    clear ht
    go_wp2_with fail
    refine (back_any B g l a w1 HA.out HG.out hn).mono ?_
    rintro e w2 ⟨la, k, c, rfl, hg2, ho2, ha2⟩
    have HG2 := Lib.hid hg2
    have HO2 := Lib.hid ho2
    have HA2 := Lib.hid ha2
    obtain ⟨er, her⟩ : ∃ er, (mpartS l a).2 = er := ⟨_, rfl⟩
    rw [her] at HR ⊢
    clear hg2 ho2 ha2 her x0 x1
    go_wp2_with fail
    go_ret3
    exact ⟨la, k, c, by rw [HR.out.2.1, HR.out.2.2.1]; rfl, (grown_below HB.out _).trans HG2.out, by rw [HR.out.1]; exact HO2.out.low HB.out.size, by rw [HR.out.2.2.2]; exact HA2.out⟩
  · have HR : Hid (doBack l a t = [] ∧ doLost l t = (lostS l t).1 ∧ doErr l a t = (lostS l t).2 ∧ doLeft l a t = chgS l t) := by unfold doBack doLost doErr doLeft; simp [Hid, ht]
    have hbq' : (bs t).toList.isEmpty = false := by rw [bs_toList]; simp [ht]
    clear ht
    go_wp2_with fail
    refine (charge_any B g l t w1 HA.out HG.out hn).mono ?_
    rintro e w2 ⟨rfl, hg2, ha2⟩
    have HG2 := Lib.hid hg2
    have HA2 := Lib.hid ha2
    obtain ⟨er, her⟩ : ∃ er, (lostS l t).2 = er := ⟨_, rfl⟩
    obtain ⟨lo, hlo⟩ : ∃ lo, (lostS l t).1 = lo := ⟨_, rfl⟩
    rw [her, hlo] at HR ⊢
    clear hg2 ha2 her hlo x0 x1
    go_wp2_with fail
    go_ret3
    exact ⟨none, 0, 0, by rw [HR.out.2.1, HR.out.2.2.1]; rfl, (grown_below HB.out _).trans HG2.out, by rw [HR.out.1]; exact OwnRecs.nil, by rw [HR.out.2.2.2]; exact HA2.out⟩

/-- At most 30 means and operations, names of at most 60 bytes. -/
def fewO (l : List MeanT) (ops : List OpT) : Bool := ops.all (fun x => decide (x.2.length ≤ 60)) && (fewS l && decide (ops.length ≤ 30))

theorem fewO_iff (l : List MeanT) (ops : List OpT) : fewO l ops = true ↔ (∀ i, i < ops.length → (on ops i).length ≤ 60) ∧ fewS l = true ∧ ops.length ≤ 30 := by
  unfold fewO
  rw [Bool.and_eq_true, Bool.and_eq_true, decide_eq_true_eq, List.all_eq_true]
  refine and_congr_left fun _ => ⟨fun h i hi => ?_, fun h m hm => ?_⟩
  · have := h _ (List.getElem_mem hi)
    rw [decide_eq_true_eq] at this
    rw [on_eq _ _ hi]; exact this
  · obtain ⟨i, hi, rfl⟩ := List.getElem_of_mem hm
    have := h i hi
    rw [on_eq _ _ hi] at this
    rw [decide_eq_true_eq]; exact this

set_option maxRecDepth 10000 in
set_option maxHeartbeats 800000 in
theorem few_any (ra ro : Option Addr) (n c m d : Nat) (l : List MeanT) (ops : List OpT) (w : World) (h : Means w ra n l) (ho : OpsAt w ro m ops) (hn : n ≤ 9223372036854775807) (hm : m ≤ 9223372036854775807)
    (hl : ∀ i, i < n → (nm l i).length ≤ 9223372036854775807) (hol : ∀ i, i < m → (on ops i).length ≤ 9223372036854775807) :
    Calls Tryd.prog 10 #[.slice ra n c, .slice ro m d] w fun e w' => e = .returned (.bool (fewO l ops)) ∧ w = w' := by
  have HM := Lib.hid h
  have HO := Lib.hid ho
  have hlen := ho.1
  have HL := Lib.hid hl
  have HOL := Lib.hid hol
  clear h ho hl hol
  go_enter Tryd.func10, Tryd.ntmps10
  go_wp2_with fail
  go_loopw [5] (fun v5 wr => ∃ i : Nat, v5 = .int .i64 i ∧ w = wr ∧ i ≤ m ∧ Hid (∀ j, j < i → (on ops j).length ≤ 60)) (fun v5 _ => m - (intOf v5).toNat)
  case atStart => exact ⟨0, rfl, rfl, Nat.zero_le _, fun j hj => by omega⟩
  case round =>
    obtain ⟨i, rfl, rfl, hi, HW⟩ := hrel
    by_cases hlt : i < m
    · obtain ⟨b, o, rfl, c0, c1⟩ := OpsAt.at HO.out i hlt
      have hbs := bs_size (on ops i)
      have hof := HOL.out i hlt
      by_cases h60 : (on ops i).length ≤ 60
      · have h60' : ((on ops i).length : Int) ≤ 60 := by omega
        go_wp2_with fail
        go_roundw
        case rel => exact ⟨i + 1, by go_num, trivial, hlt, fun j hj => by
          by_cases e : j = i
          · rw [e]; exact h60
          · exact HW.out j (by omega)⟩
        case measure => simp [intOf]; omega
      · have h60' : (60 : Int) < (on ops i).length := by omega
        have HR : Hid (fewO l ops = false) := by
          show _ = _
          cases hh : fewO l ops
          · rfl
          · exact absurd ((fewO_iff l ops).mp hh |>.1 i (by omega)) h60
        go_wp2_with fail
        go_ret
        exact ⟨by rw [HR.out]; rfl, rfl⟩
    · have HR : Hid (fewO l ops = (fewS l && decide ((m : Int) ≤ 30))) := by
        show _ = _
        cases hh : fewS l
        · cases hk : fewO l ops
          · rfl
          · have := ((fewO_iff l ops).mp hk).2.1; rw [hh] at this; simp at this
        · by_cases h30 : m ≤ 30
          · rw [(fewO_iff l ops).mpr ⟨fun j hj => HW.out j (by omega), hh, by omega⟩]
            simp; omega
          · cases hk : fewO l ops
            · simp; omega
            · have := ((fewO_iff l ops).mp hk).2.2; omega
      go_wp2_with fail
      refine (mfew_any ra n c l w HM.out hn HL.out).mono ?_
      rintro e w2 ⟨rfl, rfl⟩
      cases hf : fewS l
      · have HR2 : Hid (fewO l ops = false) := by show _ = _; rw [HR.out, hf]; rfl
        clear hf HR
        go_wp2_with fail
        go_ret
        exact ⟨by rw [HR2.out]; rfl, rfl⟩
      · have HR2 : Hid (fewO l ops = decide ((m : Int) ≤ 30)) := by show _ = _; rw [HR.out, hf]; rfl
        clear hf HR
        go_wp2_with fail
        go_ret
        exact ⟨by rw [HR2.out]; rfl, rfl⟩

/-- The means of the chapter's example. -/
def card : Name := [99, 97, 114, 100]
def gift : Name := [103, 105, 102, 116]
def paidS : List MeanT := [(card, 700), (gift, 300)]

theorem two_at (x y : MeanT) {W : World} {b : Nat} (h : W.heap[b]? = some (.cells #[.string (bs x.1), .int .i64 x.2, .string (bs y.1), .int .i64 y.2] 46 (0, 0))) : Means W (some ⟨b, 0, none⟩) 2 [x, y] := by
  refine ⟨rfl, fun i hi => ⟨b, 0, rfl, fun j hj => ?_⟩⟩
  rw [cell_of_row _ _ _ _ _ _ h, rc_eq _ _ (by simp; omega)]
  match i, j, hi, hj with
  | 0, 0, _, _ => rfl
  | 0, 1, _, _ => rfl
  | 1, 0, _, _ => rfl
  | 1, 1, _, _ => rfl

theorem paid_any (w : World) : Calls Tryd.prog 25 #[] w fun e w' => ∃ b, e = .returned (.slice (some ⟨b, 0, none⟩) 2 2) ∧ Below w.heap.size w w' ∧ Means w' (some ⟨b, 0, none⟩) 2 paidS := by
  have HB := Lib.hid (Joins.below_alloc1 w (.cells #[.string (bs card), .int .i64 700, .string (bs gift), .int .i64 300] 46))
  have HX : Hid ((w.alloc (.cells #[.string (bs card), .int .i64 700, .string (bs gift), .int .i64 300] 46)).heap[w.heap.size]? = some (.cells #[.string (bs card), .int .i64 700, .string (bs gift), .int .i64 300] 46 (0, 0))) := World.alloc_heap_new w _
  go_enter Tryd.func25, Tryd.ntmps25
  go_wp2_with fail
  go_ret
  exact ⟨w.heap.size, rfl, HB.out, two_at (card, 700) (gift, 300) HX.out⟩

theorem backnil_any (a : Int) (w : World) : Calls Tryd.prog 23 #[.pointer none, .int .i64 a] w fun e w' => e = .returned (.tuple #[.slice none 0 0, .int .i64 1]) ∧ w = w' := by
  go_enter Tryd.func23, Tryd.ntmps23
  go_wp2_with fail
  go_ret2
  exact ⟨rfl, rfl⟩
end Go.Proofs.YtgpmhaeiccljaaaDoor
