/- fit.ranked, fit.fill, fit.Bound. -/
import Derived.Test.YtaomlhhlefpdeaaQFitBound09
import Derived.Deep.OwnRows

namespace Go.Proofs.Ytaomlhhlefpdeaa
open Go.RowKit

/-- The numbers from 0 on. -/
def idx (n : Nat) : List Int := (List.range n).map fun (k : Nat) => (k : Int)

theorem idx_length (n : Nat) : (idx n).length = n := by simp [idx]

theorem ix_idx (n k : Nat) (h : k < n) : ix (idx n) k = k := by
  simp [ix, idx, List.getD_eq_getElem?_getD, h]

theorem mem_idx (n : Nat) (x : Int) : x ∈ idx n ↔ 0 ≤ x ∧ x < n := by
  simp only [idx, List.mem_map, List.mem_range]
  exact ⟨fun ⟨k, h, e⟩ => by omega, fun h => ⟨x.toNat, by omega, by omega⟩⟩

theorem idx_lt (n : Nat) : (idx n).Pairwise (· < ·) := by
  rw [idx, List.pairwise_map]
  exact List.Pairwise.imp (fun h => by omega) (List.pairwise_lt_range (n := n))

theorem make_ints (n : Nat) (hn : n ≤ 4000) : ∃ arr : Array Value, arr.size = n ∧ (∀ k, k < n → arr[k]? = some (.int .i64 0)) ∧
    ∀ w : World, (Instr.makeSlice 22 (.int .i64 (n : Int)) (.int .i64 (n : Int))).run Try.prog w = .ok (.slice (some ⟨w.heap.size, 0, none⟩) n n) (w.alloc (.cells arr 3)) := by
  refine ⟨madeCells #[.int .i64 0] n, size_madeCells _ _, fun k hk => ?_, fun w => ?_⟩
  · simp [madeCells, hk, Nat.mod_one]
  · exact run_make_row' 22 3 (.int .i64 0) 8 Try.underlying22 (by kernel_rfl) rfl .i64 .i64 n (by omega) (by omega) w

theorem IntRow.made {w : World} {arr : Array Value} {T : TypeId} {n g : Nat} (hg : g = w.heap.size) (hs : arr.size = n) (hz : ∀ k, k < n → arr[k]? = some (.int .i64 0)) : IntRow (w.alloc (.cells arr T)) g T (List.replicate n 0) := by
  subst hg
  refine ⟨arr, ?_, by simp [hs], fun k hk => ?_⟩
  · show (w.heap.push _)[w.heap.size]? = _
    simp
  · rw [List.length_replicate] at hk
    rw [hz k hk]
    simp [ix, List.getD_eq_getElem?_getD, hk]

theorem IntRow.ints {w : World} {g : Nat} {T : TypeId} {D : List Int} (h : IntRow w g T D) : Ints w (some ⟨g, 0, none⟩) D.length D :=
  ⟨rfl, fun k hk => ⟨g, 0, rfl, by rw [Nat.zero_add]; exact h.cell k hk⟩⟩

/-- A greater value comes first, of equal ones the lesser number. -/
def byValue (G : List (Int × Int)) (u v : Int) : Prop := gv G v.toNat < gv G u.toNat ∨ (gv G u.toNat = gv G v.toNat ∧ u < v)

theorem byValue_trans (G : List (Int × Int)) (x y z : Int) (h : byValue G x y) (k : byValue G y z) : byValue G x z := by
  unfold byValue at *; omega

/-- The numbers of the groups in the order by value. -/
def Ranked (G : List (Int × Int)) (O : List Int) : Prop := O.Perm (idx G.length) ∧ O.Pairwise (byValue G)

def ValuesOk (G : List (Int × Int)) : Prop := ∀ k, k < G.length → (1 ≤ gs G k ∧ gs G k ≤ 12) ∧ 0 ≤ gv G k ∧ gv G k ≤ 1000000

theorem enter_ranked1 (args : Array Value) (w : World) : (callFunc 71 args).run Try.prog w = .ok (.enter 71 args) w := by
  kernel_rfl

set_option maxRecDepth 10000 in
set_option maxHeartbeats 400000 in
theorem ranked1_any (B : Nat) (ra : Option Addr) (n c : Nat) (G : List (Int × Int)) (x y : Int) (w : World) (hc : w.cell? ⟨B, 0, none⟩ = some (.slice ra n c)) (hG : Pairs w ra n G) (hv : ValuesOk G)
    (hx : 0 ≤ x ∧ x < n) (hy : 0 ≤ y ∧ y < n) :
    Calls Try.prog 71 #[.int .i64 x, .int .i64 y, .pointer (some ⟨B, 0, none⟩)] w fun e w' => e = .returned (.int .i64 (gv G y.toNat - gv G x.toNat)) ∧ ∃ q, w' = w.drewN q := by
  obtain ⟨i, rfl⟩ : ∃ i : Nat, x = i := ⟨x.toNat, by omega⟩
  obtain ⟨j, rfl⟩ : ∃ i : Nat, y = i := ⟨y.toNat, by omega⟩
  have b1 := hv i (by rw [hG.1]; omega)
  have b2 := hv j (by rw [hG.1]; omega)
  obtain ⟨b, o, rfl, _, c1⟩ := hG.2 i (by omega)
  obtain ⟨b', o', e, _, c2⟩ := hG.2 j (by omega)
  obtain ⟨rfl, rfl⟩ : b = b' ∧ o = o' := by simpa using e
  obtain ⟨_, b1⟩ := b1; obtain ⟨_, b2⟩ := b2
  clear hG hv e
  go_enter Try.func71, Try.ntmps71
  go_wp2
  go_quiet (fail)
  go_wp2
  go_ret
  exact ⟨by simp, nq, rfl⟩

set_option maxRecDepth 10000 in
set_option maxHeartbeats 800000 in
theorem ranked_any (ra : Option Addr) (n c : Nat) (G : List (Int × Int)) (w : World) (hn : n ≤ 4000) (hG : Pairs w ra n G) (hv : ValuesOk G) :
    Calls Try.prog 47 #[.slice ra n c] w fun e w' => ∃ oa c' O, e = .returned (.slice oa n c') ∧ Below w.heap.size w w' ∧ Ints w' oa n O ∧ Ranked G O := by
  obtain ⟨arr, hs, hz, hmk⟩ := make_ints n hn
  have hrow0 := IntRow.made (w := w.alloc (.cells #[.slice ra n c] 23)) (T := 3) (g := w.heap.size + 1) (by simp) hs hz
  have HROW := Lib.hid hrow0
  have HG := Lib.hid hG; have HV := Lib.hid hv
  clear hrow0 hz hs hG hv
  go_enter Try.func47, Try.ntmps47
  go_wp2
  go_loopw [4, 10] (fun _ v wr => ∃ (i : Nat) (D : List Int), v = .int .i64 i ∧ i ≤ n ∧ Hid (D.length = n) ∧ Hid (∀ k, k < i → ix D k = k) ∧ IntRow wr (w.heap.size + 1) 3 D ∧ Below w.heap.size w wr ∧ wr.cell? ⟨w.heap.size, 0, none⟩ = some (.slice ra n c))
    (fun _ v _ => n - (intOf v).toNat)
  case atStart => exact ⟨0, _, rfl, Nat.zero_le _, List.length_replicate, by simp [Hid], HROW.out, (((Below.refl _ _).alloc (Nat.le_refl _) _).alloc (by simp) _), by simp [go_sem]⟩
  case round =>
    clear HROW hmk
    obtain ⟨i, D, rfl, hi, H1, H2, hr, hb, hbox⟩ := hrel
    by_cases hlt : i < n
    · have c1 := hr.cell i (by rw [H1.out]; exact hlt)
      have f1 := hr.free i
      have HS := Lib.hid (hr.set i (by rw [H1.out]; exact hlt) i)
      clear hr
      go_wp2
      go_roundw
      case rel => exact ⟨i + 1, _, by go_num, by omega, by show _ = _; rw [List.length_set]; exact H1.out, by
        intro k hk
        rw [ix_set _ _ _ _ (by rw [H1.out]; exact hlt)]
        by_cases h : i = k
        · rw [if_pos h, h]
        · rw [if_neg h]; exact H2.out k (by omega), HS.out, hb.setCell (by simp) _, by simpa [go_sem] using hbox⟩
      case measure => simp [intOf]; omega
    · have hD : D = idx n := by
        apply list_ext_ix
        · rw [H1.out, idx_length]
        · intro k hk; rw [H1.out] at hk; rw [ix_idx n k hk]; exact H2.out k (by omega)
      subst hD
      have hN : n = G.length := HG.out.1.symm
      have hcmp : CmpAt 71 #[.pointer (some ⟨w.heap.size, 0, none⟩)] (fun x y => gv G y.toNat - gv G x.toNat) (fun x => 0 ≤ x ∧ x < n) (w.heap.size + 1) wr := by
        intro x y w' hx hy hg
        have hbx : w'.cell? ⟨w.heap.size, 0, none⟩ = some (.slice ra n c) := hg.cell hbox (by simp)
        have hb2 : Below w.heap.size w w' := hb.grown hg hb.size (fun k hk => by simp at hk; omega)
        simpa using ranked1_any w.heap.size ra n c G x y w' hbx (HG.out.below hb2) HV.out hx hy
      have HS := Lib.hid (sortStable_any 71 #[.pointer (some ⟨w.heap.size, 0, none⟩)] _ _ (byValue G) (w.heap.size + 1) 3 n n (idx n) wr enter_ranked1 hcmp (byValue_trans G) (idx_length n).symm hn hr (fun x hx => (mem_idx n x).1 hx) (by
        refine List.Pairwise.imp ?_ (idx_lt n)
        intro u v huv
        unfold Ok byValue
        dsimp only
        omega))
      clear hcmp hr hbox H1 H2
      have HN := Lib.hid hN; clear hN
      go_wp2_with fail
      refine HS.out.mono ?_
      rintro e w1 ⟨rfl, hg, D', hr', hp, ho⟩
      have hb2 : Below w.heap.size w w1 := hb.grown hg hb.size (fun k hk => by simp at hk; omega)
      have hl : D'.length = n := by rw [hp.length_eq, idx_length]
      have FIN : Hid (∃ oa c' O, Ending.returned (.slice (some ⟨w.heap.size + 1, 0, none⟩) n n) = .returned (.slice oa n c') ∧ Below w.heap.size w w1 ∧ Ints w1 oa n O ∧ Ranked G O) :=
        ⟨_, _, D', rfl, hb2, by have := hr'.ints; rw [hl] at this; exact this, by rw [HN.out] at hp; exact hp, ho⟩
      clear hr' hp ho hg hb2 hl hb HS
      go_wp2
      go_ret
      exact FIN.out
/-- What the groups, in an order, those that are not left out, bring for a length. -/
def fillS (G : List (Int × Int)) (p : Int → Bool) : Int → List Int → Int
  | _, [] => 0
  | n, i :: O => if p i then fillS G p n O else min (gs G i.toNat) n * gv G i.toNat + fillS G p (n - min (gs G i.toNat) n) O

theorem enter_bound1 (args : Array Value) (w : World) : (callFunc 48 args).run Try.prog w = .ok (.enter 48 args) w := by
  kernel_rfl

theorem bound1_any (x : Int) (w : World) : Calls Try.prog 48 #[.int .i64 x] w fun e w' => e = .returned (.bool false) ∧ w = w' := by
  go_enter Try.func48, Try.ntmps48
  go_wp2
  go_ret
  exact ⟨rfl, rfl⟩

set_option maxRecDepth 10000 in
set_option maxHeartbeats 800000 in
theorem fill_any (f : Nat) (cap : Array Value) (p : Int → Bool) (ga oa : Option Addr) (m d n c : Nat) (G : List (Int × Int)) (O : List Int) (len : Int) (w : World)
    (hcf : ∀ (args : Array Value) (w : World), (callFunc f args).run Try.prog w = .ok (.enter f args) w)
    (hcl : ∀ x wr, Below w.heap.size w wr → 0 ≤ x → x < m → Calls Try.prog f (#[.int .i64 x] ++ cap) wr fun e w' => e = .returned (.bool (p x)) ∧ Below wr.heap.size wr w')
    (hn : n ≤ 4000) (hG : Pairs w ga m G) (hO : Ints w oa n O) (hv : ValuesOk G) (hr : ∀ x ∈ O, 0 ≤ x ∧ x < m) (hl0 : 0 ≤ len) (hl1 : len ≤ 4000) :
    Calls Try.prog 46 #[.slice ga m d, .slice oa n c, .func (.func f) #[] cap, .int .i64 len] w fun e w' => e = .returned (.int .i64 (fillS G p len O)) ∧ Below w.heap.size w w' := by
  have HC := Lib.hid hcl; have HG := Lib.hid hG; have HO := Lib.hid hO; have HV := Lib.hid hv; have HR := Lib.hid hr
  clear hcl hG hO hv hr
  go_enter Try.func46, Try.ntmps46
  go_wp2
  go_loopw [3, 9, 11, 12, 15] (fun v3 v9 _ _ v15 wr => ∃ (i : Nat) (left value : Int), v3 = .int .i64 left ∧ v9 = .int .i64 value ∧ v15 = .int .i64 i ∧ i ≤ n ∧ 0 ≤ left ∧ left ≤ 4000 ∧ 0 ≤ value ∧ value ≤ 12000000 * i ∧ Below w.heap.size w wr ∧
      Hid (fillS G p len O = value + fillS G p left (O.drop i)))
    (fun _ _ _ _ v15 _ => n - (intOf v15).toNat)
  case atStart => exact ⟨0, len, 0, rfl, rfl, rfl, Nat.zero_le _, hl0, hl1, by omega, by omega, Below.refl _ _, by simp [Hid]⟩
  case round =>
    obtain ⟨i, left, value, rfl, rfl, rfl, hi, h1, h2, h3, h4, hb, HF⟩ := hrel
    by_cases hlt : i < n
    · obtain ⟨bo, oo, rfl, c0⟩ := (HO.out.below hb).2 i hlt
      have hd := drop_ix O i (by rw [HO.out.1]; exact hlt)
      have hx := HR.out (ix O i) (by
        have hlt' : i < O.length := by rw [HO.out.1]; exact hlt
        simp [ix, List.getD_eq_getElem?_getD, hlt'])
      obtain ⟨x, hxx⟩ : ∃ x : Nat, (x : Int) = ix O i := ⟨(ix O i).toNat, by omega⟩
      rw [← hxx] at c0 hd hx
      have hxm : x < m := by omega
      have HD := Lib.hid hd
      have hC := HC.out x wr hb (by omega) (by omega)
      obtain ⟨q, hq⟩ : ∃ q, q = p x := ⟨_, rfl⟩
      rw [← hq] at hC
      have HQ := Lib.hid hq; have HC2 := Lib.hid hC
      clear hd hx hxx hq hC
      go_wp2_with fail
      refine HC2.out.mono ?_
      rintro e w1 ⟨rfl, hb1⟩
      have hb2 := hb.trans (hb1.mono hb.size)
      cases q
      · obtain ⟨bg, og, rfl, c1, c2⟩ := (HG.out.below hb2).2 x hxm
        have hv := HV.out x (by rw [HG.out.1]; exact hxm)
        have HF2 : Hid (fillS G p left (O.drop i) = min (gs G x) left * gv G x + fillS G p (left - min (gs G x) left) (O.drop (i + 1))) := by
          rw [HD.out]; simp [Hid, fillS, ← HQ.out]
        obtain ⟨s, hs⟩ : ∃ s, s = gs G x := ⟨_, rfl⟩
        obtain ⟨v, hvv⟩ : ∃ v, v = gv G x := ⟨_, rfl⟩
        rw [← hs] at c1 hv HF2; rw [← hvv] at c2 hv HF2
        clear hs hvv
        obtain ⟨k, hk⟩ : ∃ k, k = min s left := ⟨_, rfl⟩
        have hk1 : 0 ≤ k ∧ k ≤ 12 ∧ k ≤ left := by omega
        have hkv : 0 ≤ k * v ∧ k * v ≤ 12000000 := ⟨Int.mul_nonneg (by omega) (by omega), Int.le_trans (Int.mul_le_mul (show k ≤ 12 by omega) (show v ≤ 1000000 by omega) (by omega) (by omega)) (by omega)⟩
        have hk' : min s left = k := hk.symm
        rw [hk'] at HF2
        have hk2 : (if left < s then left else s) = k := by rw [hk]; split <;> omega
        have HB2 := Lib.hid hb2
        clear hb hb1 hb2 hk hk'
        go_wp2
        go_roundw
        case rel => exact ⟨i + 1, left - k, value + k * v, rfl, rfl, by go_num, by omega, by omega, by omega, by omega, by omega, HB2.out, by rw [HF.out, HF2.out]; simp only [Hid]; omega⟩
        case measure => simp [intOf]; omega
      · have HB2 := Lib.hid hb2
        clear hb hb1 hb2
        go_wp2
        go_roundw
        case rel => exact ⟨i + 1, left, value, rfl, rfl, by go_num, by omega, h1, h2, h3, by omega, HB2.out, by rw [HF.out, HD.out, fillS]; simp [Hid, ← HQ.out]⟩
        case measure => simp [intOf]; omega
    · go_wp2
      go_ret
      exact ⟨by rw [HF.out, List.drop_eq_nil_of_le (by rw [HO.out.1]; omega)]; simp [fillS], hb⟩
end Go.Proofs.Ytaomlhhlefpdeaa
