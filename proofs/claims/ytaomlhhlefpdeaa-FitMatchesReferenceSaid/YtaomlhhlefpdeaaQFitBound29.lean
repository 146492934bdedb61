/- foyerref22.rooms: the walk. -/
import Derived.Test.YtaomlhhlefpdeaaQFitBound26
import Derived.BigRegion

namespace Go.Proofs.Ytaomlhhlefpdeaa
open Go.RowKit Go.IntWalk

/-- The rooms when the first groups sit where W says. -/
def roomsL (R : List Int) (G : List (Int × Int)) (W : List Int) : Nat → List Int
  | 0 => R
  | i + 1 => if 0 ≤ ix W i then (roomsL R G W i).set (ix W i).toNat (ix (roomsL R G W i) (ix W i).toNat - gs G i) else roomsL R G W i

theorem roomsL_length (R : List Int) (G : List (Int × Int)) (W : List Int) : ∀ i, (roomsL R G W i).length = R.length := by
  intro i
  induction i with
  | zero => rfl
  | succ i ih => rw [roomsL]; split <;> simp [ih]

theorem roomsL_bounds {R : List Int} {G : List (Int × Int)} {W : List Int} (hv : ValuesOk G) (hR : ∀ r, r < R.length → 0 ≤ ix R r ∧ ix R r ≤ 4000) : ∀ i, i ≤ G.length → (∀ k, k < i → ix W k < R.length) → ∀ r, r < R.length → -12 * (i : Int) ≤ ix (roomsL R G W i) r ∧ ix (roomsL R G W i) r ≤ 4000 := by
  intro i
  induction i with
  | zero => intro _ _ r hr; have := hR r hr; rw [roomsL]; omega
  | succ i ih =>
    intro hi hw r hr
    have hi' := ih (by omega) (fun k hk => hw k (by omega))
    have hg := (hv i (by omega)).1
    have h0 := hi' r hr
    rw [roomsL]
    split
    · have hwi := hw i (by omega)
      rw [ix_set _ _ _ _ (by rw [roomsL_length]; omega)]
      split
      · rename_i e; subst e; omega
      · omega
    · omega

/-- A work, by value. -/
def workV (ra ga sa wa ha : Option Addr) (n c m d sl sc wl wc hl hc : Nat) (single : Bool) (V : Int) : Value :=
  .agg #[.slice ra n c, .slice ga m d, .bool single, .int .i64 V, .slice sa sl sc, .slice wa wl wc, .slice ha hl hc]

def workC (ra ga sa wa ha : Option Addr) (n c m d sl sc wl wc hl hc : Nat) (single : Bool) (V : Int) : Array Value :=
  #[.slice ra n c, .slice ga m d, .bool single, .int .i64 V, .slice sa sl sc, .slice wa wl wc, .slice ha hl hc]

set_option maxRecDepth 10000 in
set_option maxHeartbeats 3200000 in
theorem rooms_any (ra ga sa wa ha : Option Addr) (n c m d sl sc wc hl hc : Nat) (single : Bool) (V : Int) (R W : List Int) (G : List (Int × Int)) (w : World) (hn : n ≤ 4000) (hm : m ≤ 4000)
    (hR : Ints w ra n R) (hG : Pairs w ga m G) (hW : Ints w wa m W) (hv : ValuesOk G) (hRb : ∀ r, r < n → 0 ≤ ix R r ∧ ix R r ≤ 4000) (hWb : ∀ k, k < m → ix W k < n) :
    Calls Try.prog 74 #[workV ra ga sa wa ha n c m d sl sc m wc hl hc single V] w fun e w' => ∃ la lc, e = .returned (.slice la n lc) ∧ Below w.heap.size w w' ∧ OwnInts w' w.heap.size la n (roomsL R G W m) := by
  have hb0 : Below w.heap.size w (w.alloc (.cells (workC ra ga sa wa ha n c m d sl sc m wc hl hc single V) 82)) := (Below.refl _ _).alloc (Nat.le_refl _) _
  have HBX0 := Lib.hid (Box.new (w := w) (vs := workC ra ga sa wa ha n c m d sl sc m wc hl hc single V) (T := 82) rfl)
  unfold workC at hb0 HBX0
  have HBD : Hid (∀ i, i ≤ m → ∀ r, r < n → -12 * (i : Int) ≤ ix (roomsL R G W i) r ∧ ix (roomsL R G W i) r ≤ 4000) := fun i hi r hr =>
    roomsL_bounds hv (fun r hr => hRb r (by rw [← hR.1]; exact hr)) i (by rw [hG.1]; exact hi) (fun k hk => by rw [hR.1]; exact hWb k (by omega)) r (by rw [hR.1]; exact hr)
  have HRL := Lib.hid hR.1
  have HR := Lib.hid hR; have HG := Lib.hid hG; have HW := Lib.hid hW; have HV := Lib.hid hv; have HWB := Lib.hid hWb; have HGL := Lib.hid hG.1
  clear hR hG hW hv hRb hWb
  unfold workV
  go_enter Try.func74, Try.ntmps74
  go_upto_region 1 with fail
  generalize (w.alloc (.cells #[.slice ra n c, .slice ga m d, .bool single, .int .i64 V, .slice sa sl sc, .slice wa m wc, .slice ha hl hc] 82)) = w1 at *
  have x0 : ∀ o, (w1.alloc o).cell? ⟨w.heap.size, 0, none⟩ = some (.slice ra n c) := fun o => (HBX0.out.alloc o).cell 0
  obtain ⟨la, lc, w2, hcp, hb2, hol⟩ := copy_ints w1 ra n c R (Nat.le_trans hn (by decide)) (HR.out.below hb0)
  have HB2 := Lib.hid hb2; have HOL := Lib.hid hol; have HB0 := Lib.hid hb0; have HCP := Lib.hid hcp
  clear hb2 hol hb0 hcp
  go_upto_region 2 with (at_builtin; refine wpList_run_append rfl _ _ 22 rfl 22 rfl HCP.out rfl rfl ?_)
  clear HCP x0
  have HBX := Lib.hid (HBX0.out.below HB2.out)
  have HBW := Lib.hid (HB0.out.trans (HB2.out.mono HB0.out.size))
  have hlw : w.heap.size ≤ w1.heap.size := HB0.out.size
  have HLA : Hid (∀ g, 0 < n → la = some ⟨g, 0, none⟩ → w.heap.size ≤ g) := fun g h e => by
    obtain ⟨g', e', h1, _⟩ := HOL.out.2 h
    rw [e] at e'; simp at e'; subst e'; omega
  have HSM : Hid (0 < n → ∃ g, la = some ⟨g, 0, none⟩ ∧ g ≠ w.heap.size) := fun h => by
    obtain ⟨g, e, h1, _⟩ := HOL.out.2 h
    have := lt_of_block HBX0.out
    exact ⟨g, e, by omega⟩
  have HROW : Hid (∀ g, 0 < n → la = some ⟨g, 0, none⟩ → IntRow w2 g 3 R) := fun g h e => by
    obtain ⟨g', e', _, h2⟩ := HOL.out.2 h
    rw [e] at e'; simp at e'; subst e'; exact h2
  clear HBX0 HB2 HB0 HOL hlw
  go_wp2_with fail
  go_loopw [4] (fun v4 wr => ∃ i : Nat, v4 = .int .i64 i ∧ i ≤ m ∧ Hid (Below w.heap.size w wr) ∧ Hid (Box wr w.heap.size 82 #[.slice ra n c, .slice ga m d, .bool single, .int .i64 V, .slice sa sl sc, .slice wa m wc, .slice ha hl hc]) ∧
      Hid (∀ g, 0 < n → la = some ⟨g, 0, none⟩ → IntRow wr g 3 (roomsL R G W i))) (fun v4 _ => m - (intOf v4).toNat)
  case atStart => exact ⟨0, rfl, Nat.zero_le _, HBW, HBX, HROW⟩
  case round =>
    clear HBW HBX HROW
    obtain ⟨i, rfl, hi, HBW, HBX, HROW⟩ := hrel
    have x5 := HBX.out.cell 5
    simp only [List.getElem?_toArray, List.getElem?_cons_zero, List.getElem?_cons_succ] at x5
    by_cases hlt : i < m
    · obtain ⟨wb, wo, rfl, c1⟩ := (HW.out.below HBW.out).2 i hlt
      have hwb := HWB.out i hlt
      obtain ⟨y, hy⟩ : ∃ y, ix W i = y := ⟨_, rfl⟩
      rw [hy] at c1 hwb
      by_cases h0 : 0 ≤ y
      · have e1 : decide (0 ≤ y) = true := by simp; exact h0
        obtain ⟨r, rfl⟩ : ∃ r : Nat, y = r := ⟨y.toNat, by omega⟩
        have hrn : r < n := by omega
        obtain ⟨lb, rfl, hlne⟩ := HSM.out (by omega)
        have hrow := HROW.out lb (by omega) rfl
        have hlge := HLA.out lb (by omega) rfl
        have HLEN : Hid ((roomsL R G W i).length = n) := by show _ = _; rw [roomsL_length]; exact HRL.out
        have HSTEP : Hid (roomsL R G W (i + 1) = (roomsL R G W i).set r (ix (roomsL R G W i) r - gs G i)) := by
          show _ = _
          rw [roomsL, hy, if_pos h0, Int.toNat_natCast]
        have hbd := HBD.out i hi r hrn
        have hgg := (HV.out i (by rw [HGL.out]; exact hlt)).1
        obtain ⟨gb, go, rfl, d1, _⟩ := (HG.out.below HBW.out).2 i hlt
        obtain ⟨a, hax⟩ : ∃ a, ix (roomsL R G W i) r = a := ⟨_, rfl⟩
        obtain ⟨s, hs⟩ : ∃ s, gs G i = s := ⟨_, rfl⟩
        rw [hax, hs] at HSTEP
        rw [hax] at hbd; rw [hs] at hgg d1
        have rr := hrow.cell r (by rw [HLEN.out]; exact hrn)
        rw [hax] at rr
        have rf := hrow.free r
        have x1 := HBX.out.cell 1
        simp only [List.getElem?_toArray, List.getElem?_cons_zero, List.getElem?_cons_succ] at x1
        have hw : wrap64 (a - s) = a - s := wrap64_in _ (by omega)
        have HSET : Hid (IntRow (wr.setCell ⟨lb, r, none⟩ (.int .i64 (a - s))) lb 3 (roomsL R G W (i + 1)) ∧ Below w.heap.size w (wr.setCell ⟨lb, r, none⟩ (.int .i64 (a - s))) ∧ Box (wr.setCell ⟨lb, r, none⟩ (.int .i64 (a - s))) w.heap.size 82 #[.slice ra n c, .slice (some ⟨gb, go, none⟩) m d, .bool single, .int .i64 V, .slice sa sl sc, .slice (some ⟨wb, wo, none⟩) m wc, .slice ha hl hc]) :=
          ⟨by rw [HSTEP.out]; exact hrow.set r (by rw [HLEN.out]; exact hrn) _, HBW.out.setCell hlge _, HBX.out.of_heap (heap_set _ (fun e => hlne e.symm))⟩
        clear hy hax hs hrow HSTEP
        go_upto_region 6 with fail
        go_region
        all_goals
          go_wp2_with fail
          go_roundw
          case rel => exact ⟨i + 1, by go_num, by omega, HSET.out.2.1.trans (((Below.refl _ _).drew).mono HSET.out.2.1.size), HSET.out.2.2, fun g _ e => by simp at e; subst e; exact HSET.out.1⟩
          case measure => simp [intOf]; omega
      · have e1 : decide (0 ≤ y) = false := by simp; omega
        have HSTEP : Hid (roomsL R G W (i + 1) = roomsL R G W i) := by
          show _ = _
          rw [roomsL, hy, if_neg h0]
        clear hy h0
        go_wp2_with fail
        go_roundw
        case rel => exact ⟨i + 1, by go_num, by omega, HBW, HBX, fun g h e => by rw [HSTEP.out]; exact HROW.out g h e⟩
        case measure => simp [intOf]; omega
    · obtain rfl : i = m := by omega
      go_wp2_with fail
      go_ret
      refine ⟨la, lc, rfl, HBW.out, by rw [roomsL_length]; exact HRL.out, fun h => ?_⟩
      obtain ⟨g, e, _⟩ := HSM.out h
      exact ⟨g, e, HLA.out g h e, HROW.out g h e⟩
end Go.Proofs.Ytaomlhhlefpdeaa
