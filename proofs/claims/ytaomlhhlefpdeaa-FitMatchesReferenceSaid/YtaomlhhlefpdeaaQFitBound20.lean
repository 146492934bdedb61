/- greedy.order, with its comparison and its keys. -/
import Derived.Test.YtaomlhhlefpdeaaQFitBound13

namespace Go.Proofs.Ytaomlhhlefpdeaa
open Go.RowKit

def cmpI (x y : Int) : Int := if x < y then -1 else if y < x then 1 else 0

set_option maxHeartbeats 400000 in
theorem compare_any (x y : Int) (w : World) : Calls Try.prog 66 #[.int .i64 x, .int .i64 y] w fun e w' => e = .returned (.int .i64 (cmpI x y)) ∧ w' = w := by
  have hx : (x != x) = false := by simp
  have hy : (y != y) = false := by simp
  rcases Int.lt_trichotomy x y with h | h | h
  · have H : Hid (cmpI x y = -1) := by simp [Hid, cmpI, h]
    go_enter Try.func66, Try.ntmps66
    go_wp2
    go_ret
    exact ⟨by rw [H.out]; rfl, rfl⟩
  · subst h
    have H : Hid (cmpI x x = 0) := by simp [Hid, cmpI]
    go_enter Try.func66, Try.ntmps66
    go_wp2
    go_ret
    exact ⟨by rw [H.out]; rfl, rfl⟩
  · have H : Hid (cmpI x y = 1) := by simp only [Hid, cmpI]; rw [if_neg (by omega), if_pos h]
    have h2 : ¬ x < y := by omega
    go_enter Try.func66, Try.ntmps66
    go_wp2
    go_ret
    exact ⟨by rw [H.out]; rfl, rfl⟩

theorem enter_order1 (args : Array Value) (w : World) : (callFunc 65 args).run Try.prog w = .ok (.enter 65 args) w := by
  kernel_rfl

set_option maxRecDepth 10000 in
set_option maxHeartbeats 400000 in
theorem order1_any (f : Nat) (cap : Array Value) (kf : Int → Int) (B : Nat) (x y : Int) (w : World)
    (hcf : ∀ (args : Array Value) (w : World), (callFunc f args).run Try.prog w = .ok (.enter f args) w) (hc : w.cell? ⟨B, 0, none⟩ = some (.func (.func f) #[] cap))
    (hk : ∀ z n, z = x ∨ z = y → Calls Try.prog f (#[.int .i64 z] ++ cap) (w.drewN n) fun e w' => e = .returned (.int .i64 (kf z)) ∧ ∃ q, w' = (w.drewN n).drewN q) :
    Calls Try.prog 65 #[.int .i64 x, .int .i64 y, .pointer (some ⟨B, 0, none⟩)] w fun e w' => e = .returned (.int .i64 (cmpI (kf x) (kf y))) ∧ ∃ q, w' = w.drewN q := by
  have HK := Lib.hid hk
  clear hk
  go_enter Try.func65, Try.ntmps65
  go_wp2_with fail
  go_quiet (first | (go_at_call 66; exact Calls.quiet_of_same (compare_any _ _ _)) | (exact Calls.quiet_of (HK.out _ _ (by first | exact Or.inl rfl | exact Or.inr rfl))))
  go_wp2
  go_ret
  exact ⟨rfl, nq, rfl⟩

theorem solve1_any (x : Int) (w : World) : Calls Try.prog 37 #[.int .i64 x] w fun e w' => e = .returned (.int .i64 x) ∧ w' = w := by
  go_enter Try.func37, Try.ntmps37
  go_wp2
  go_ret
  exact ⟨rfl, rfl⟩

theorem enter_solve1 (args : Array Value) (w : World) : (callFunc 37 args).run Try.prog w = .ok (.enter 37 args) w := by
  kernel_rfl

theorem enter_solve2 (args : Array Value) (w : World) : (callFunc 38 args).run Try.prog w = .ok (.enter 38 args) w := by
  kernel_rfl

set_option maxHeartbeats 400000 in
theorem solve2_any (B : Nat) (ga : Option Addr) (m d : Nat) (G : List (Int × Int)) (x : Int) (w : World) (hc : w.cell? ⟨B, 1, none⟩ = some (.slice ga m d)) (hG : Pairs w ga m G) (hv : ValuesOk G) (hx : 0 ≤ x ∧ x < m) :
    Calls Try.prog 38 #[.int .i64 x, .pointer (some ⟨B, 0, none⟩)] w fun e w' => e = .returned (.int .i64 (- gv G x.toNat)) ∧ w' = w := by
  obtain ⟨i, rfl⟩ : ∃ i : Nat, x = i := ⟨x.toNat, by omega⟩
  have b1 := (hv i (by rw [hG.1]; omega)).2
  obtain ⟨b, o, rfl, _, c1⟩ := hG.2 i (by omega)
  clear hG hv
  go_enter Try.func38, Try.ntmps38
  go_wp2
  go_ret
  exact ⟨by simp, rfl⟩

/-- A lesser key comes first, of equal ones the lesser number. -/
def byKey (kf : Int → Int) (u v : Int) : Prop := kf u < kf v ∨ (kf u = kf v ∧ u < v)

theorem byKey_trans (kf : Int → Int) (x y z : Int) (h : byKey kf x y) (k : byKey kf y z) : byKey kf x z := by
  unfold byKey at *; omega

theorem idx_succ (k : Nat) : idx (k + 1) = idx k ++ [(k : Int)] := by simp [idx, List.range_succ]

set_option maxRecDepth 10000 in
set_option maxHeartbeats 1600000 in
theorem order_any (f : Nat) (cap : Array Value) (kf : Int → Int) (n : Nat) (w : World) (hn : n ≤ 4000)
    (hcf : ∀ (args : Array Value) (w : World), (callFunc f args).run Try.prog w = .ok (.enter f args) w)
    (hk : ∀ (z : Int) wr, 0 ≤ z → z < n → Below w.heap.size w wr → Calls Try.prog f (#[.int .i64 z] ++ cap) wr fun e w' => e = .returned (.int .i64 (kf z)) ∧ ∃ q, w' = wr.drewN q) :
    Calls Try.prog 36 #[.int .i64 (n : Int), .func (.func f) #[] cap] w fun e w' => ∃ la c O, e = .returned (.slice la n c) ∧ Below w.heap.size w w' ∧ Ints w' la n O ∧ O.Perm (idx n) ∧ O.Pairwise (byKey kf) := by
  obtain ⟨i0, hi, hz0, hz1, hz2⟩ := info_parts Try_infoInt
  have HK := Lib.hid hk
  clear hk
  go_enter Try.func36, Try.ntmps36
  go_wp2
  go_loopw [5, 6, 8] (fun v_5 _ v8 wr => ∃ k : Nat, v8 = .int .i64 k ∧ k ≤ n ∧ wr.ownsRow (w.heap.size + 1) 3 1 v_5 k ((idx k).map (Value.int .i64)) ∧ wr.cell? ⟨w.heap.size, 0, none⟩ = some (.func (.func f) #[] cap) ∧ Below w.heap.size w wr ∧ w.heap.size + 1 ≤ wr.heap.size)
    (fun _ _ v8 _ => n - (intOf v8).toNat)
  case atStart => exact ⟨0, rfl, Nat.zero_le _, World.ownsRow_nil _ _ _ _, by simp [go_sem], (Below.refl _ _).alloc (Nat.le_refl _) _, by simp⟩
  case round =>
    obtain ⟨k, rfl, hkn, hown, hbox, hb, hsz⟩ := hrel
    by_cases hlt : k < n
    · go_wp2_with (at_builtin; refine wpList_append_own _ rfl _ _ 22 rfl (w.heap.size + 1) 3 i0 (.int .i64 0) 1 8 Try.underlying22 hi hz0 hz1 hz2 rfl (by decide) _ _ _ rfl (hown.alloc _) ⟨wr.heap.size, 0, none⟩ 1 1 [.int .i64 (k : Int)] rfl rfl ?c1 ?c2 ?c3 ?c4 ?c5 ?_)
      case c1 =>
        intro j u hj
        match j, hj with
        | 0, hj => simp at hj; subst hj; simp [Addr.add]
      case c2 => intro u hu; simp at hu; subst hu; rfl
      case c3 => unfold maxLen; omega
      case c4 => omega
      case c5 => simp; omega
      intro v' w1 hown' hgrow _
      have hb1 : Below w.heap.size w w1 := (hb.alloc hb.size _).grown hgrow (by have := hb.size; simp; omega) (fun q hq => by have := (hown.lt q hq).1; omega)
      have hne : some (⟨w.heap.size, 0, none⟩ : Addr).block ≠ Value.ownBlock _ := fun e => by
        have h : w.heap.size + 1 ≤ w.heap.size := (hown.lt _ e.symm).1
        omega
      have hbox1 : w1.cell? ⟨w.heap.size, 0, none⟩ = some (.func (.func f) #[] cap) := hgrow.cell (by rw [World.cell?_alloc_lt _ _ _ (cell_lt hbox)]; exact hbox) hne
      have hsz1 : w.heap.size + 1 ≤ w1.heap.size := by have := hgrow.size; simp at this; omega
      have hown2 : w1.ownsRow (w.heap.size + 1) 3 1 v' (k + 1) ((idx (k + 1)).map (Value.int .i64)) := by rw [idx_succ, List.map_append]; exact hown'
      clear hown hown' hgrow hb hbox hsz
      go_wp2
      go_roundw
      case rel => exact ⟨k + 1, by go_num, by omega, hown2, hbox1, hb1, hsz1⟩
      case measure => simp [intOf]; omega
    · obtain rfl : k = n := by omega
      obtain ⟨la, c, rfl, ho⟩ := OwnInts.of_row hown
      rcases Nat.eq_zero_or_pos k with h0 | h0
      · subst h0
        clear ho hown
        go_wp2_with fail
        refine (sortStable_none 65 #[.pointer (some ⟨w.heap.size, 0, none⟩)] la c wr).mono ?_
        rintro e w1 ⟨rfl, rfl⟩
        go_wp2
        go_ret
        exact ⟨la, c, [], rfl, hb, ⟨rfl, fun k hk => absurd hk (by omega)⟩, List.Perm.refl _, by simp⟩
      · obtain ⟨g, rfl, hg, hr⟩ := ho.2 h0
        have hcmp : CmpAt 65 #[.pointer (some ⟨w.heap.size, 0, none⟩)] (fun x y => cmpI (kf x) (kf y)) (fun x => 0 ≤ x ∧ x < k) g wr := by
          intro x y w' hx hy hgr
          have hbx : w'.cell? ⟨w.heap.size, 0, none⟩ = some (.func (.func f) #[] cap) := hgr.cell hbox (by simp; omega)
          have hb2 : Below w.heap.size w w' := hb.grown hgr hb.size (fun q hq => by simp at hq; omega)
          refine (by simpa using order1_any f cap kf w.heap.size x y w' hcf hbx (fun z n hz => by
            rcases hz with rfl | rfl
            · exact HK.out _ _ hx.1 hx.2 (below_drewN hb2 n)
            · exact HK.out _ _ hy.1 hy.2 (below_drewN hb2 n)) : Calls _ _ _ _ _)
        have HS := Lib.hid (sortStable_any 65 #[.pointer (some ⟨w.heap.size, 0, none⟩)] _ _ (byKey kf) g 3 c k (idx k) wr enter_order1 hcmp (byKey_trans kf) (idx_length k).symm hn hr (fun x hx => (mem_idx k x).1 hx) (by
          refine List.Pairwise.imp ?_ (idx_lt k)
          intro u v huv
          unfold Ok byKey cmpI
          dsimp only
          constructor
          · intro h
            split at h
            · left; assumption
            · split at h <;> omega
          · intro h
            split at h
            · omega
            · split at h <;> omega))
        clear hcmp hr hbox ho hown
        go_wp2_with fail
        refine HS.out.mono ?_
        rintro e w1 ⟨rfl, hgr, D', hr', hp, hord⟩
        have hb2 : Below w.heap.size w w1 := hb.grown hgr hb.size (fun q hq => by simp at hq; omega)
        have hl : D'.length = k := by rw [hp.length_eq, idx_length]
        have FIN : Hid (Ints w1 (some ⟨g, 0, none⟩) k D') := by have := hr'.ints; rw [hl] at this; exact this
        have HP := Lib.hid hp; have HOR := Lib.hid hord
        clear hr' hp hord hgr hl hb HS
        go_wp2
        go_ret
        exact ⟨_, c, D', rfl, hb2, FIN.out, HP.out, HOR.out⟩
end Go.Proofs.Ytaomlhhlefpdeaa
