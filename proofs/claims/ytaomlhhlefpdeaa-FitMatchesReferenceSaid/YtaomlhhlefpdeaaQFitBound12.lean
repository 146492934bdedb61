/- greedy.seat. -/
import Derived.Test.YtaomlhhlefpdeaaQFitBound11
import Derived.WalkSpells

namespace Go.Proofs.Ytaomlhhlefpdeaa
open Go.RowKit

set_option maxRecDepth 10000 in
set_option maxHeartbeats 400000 in
theorem index_ints (f : Nat) (cap : Array Value) (p : Int → Bool) (ra : Option Addr) (n c : Nat) (G : List Int) (w : World)
    (hn : n ≤ 4000) (hcf : ∀ (args : Array Value) (w : World), (callFunc f args).run Try.prog w = .ok (.enter f args) w) (hG : Ints w ra n G)
    (hcl : ∀ k wr, Below w.heap.size w wr → k < n → Calls Try.prog f (#[.int .i64 (ix G k)] ++ cap) wr fun e w' => e = .returned (.bool (p (ix G k))) ∧ Below wr.heap.size wr w') :
    Calls Try.prog 62 #[.slice ra n c, .func (.func f) #[] cap] w fun e w' => e = .returned (.int .i64 (firstAt (fun k => p (ix G k)) 0 n)) ∧ Below w.heap.size w w' := by
  go_enter Try.func62, Try.ntmps62
  go_wp2
  go_loopw [4, 5, 8] (fun _ _ k wr => ∃ i : Nat, i ≤ n ∧ k = .int .i64 i ∧ Below w.heap.size w wr ∧ Hid (firstAt (fun k => p (ix G k)) 0 n = firstAt (fun k => p (ix G k)) i (n - i)))
    (fun _ _ k _ => n - (intOf k).toNat)
  case atStart => exact ⟨0, Nat.zero_le _, rfl, Below.refl _ _, rfl⟩
  case round =>
    obtain ⟨i, hi, rfl, hb, HR⟩ := hrel
    by_cases hlt : i < n
    · obtain ⟨b, o, rfl, r1⟩ := (hG.below hb).2 i hlt
      have HC := Lib.hid (hcl i wr hb hlt)
      have HS := Lib.hid (firstAt_step (fun k => p (ix G k)) n i hlt)
      clear hG hcl
      obtain ⟨q, hq⟩ : ∃ q, q = p (ix G i) := ⟨_, rfl⟩
      rw [← hq] at HC HS
      clear hq
      go_wp2_with fail
      refine HC.out.mono ?_
      rintro e w1 ⟨rfl, hb1⟩
      have hb2 := Lib.hid (hb.trans (hb1.mono hb.size))
      clear hb hb1 r1
      cases q
      · go_wp2
        go_roundw
        case rel => exact ⟨i + 1, by omega, by go_num, hb2.out, by rw [HR.out, HS.out]; simp [Hid]⟩
        case measure => simp [intOf]; omega
      · go_wp2
        go_ret
        exact ⟨by rw [HR.out, HS.out]; simp, hb2.out⟩
    · go_wp2
      go_ret
      exact ⟨by rw [HR.out, show n - i = 0 from by omega]; rfl, hb⟩


theorem enter_seat1 (args : Array Value) (w : World) : (callFunc 63 args).run Try.prog w = .ok (.enter 63 args) w := by
  kernel_rfl

set_option maxHeartbeats 800000 in
theorem seat1_any (x s : Int) (single : Bool) (gb pb : Nat) (w : World) (hx : 0 ≤ x ∧ x ≤ 4000) (hs : 1 ≤ s ∧ s ≤ 12) (hg : w.cell? ⟨gb, 0, none⟩ = some (.int .i64 s)) (hp : w.cell? ⟨pb, 2, none⟩ = some (.bool single)) :
    Calls Try.prog 63 #[.int .i64 x, .pointer (some ⟨gb, 0, none⟩), .pointer (some ⟨pb, 0, none⟩)] w fun e w' => e = .returned (.bool (fits single (x - s))) ∧ w = w' := by
  by_cases h0 : 0 ≤ x - s
  · cases single
    · have H : Hid (fits false (x - s) = true) := by simp [Hid, fits]; omega
      go_enter Try.func63, Try.ntmps63
      go_wp2
      go_ret
      exact ⟨by rw [H.out]; rfl, rfl⟩
    · by_cases h1 : x - s = 1
      · have H : Hid (fits true (x - s) = false) := by simp [Hid, fits, h1]
        have h2 : (x - s != 1) = false := by rw [bne_eq_false_iff_eq]; exact h1
        clear h1
        go_enter Try.func63, Try.ntmps63
        go_wp2
        go_ret
        exact ⟨by rw [H.out]; rfl, rfl⟩
      · have H : Hid (fits true (x - s) = true) := by simp [Hid, fits, h1]; omega
        have h2 : (x - s != 1) = true := by rw [bne_iff_ne]; exact h1
        clear h1
        go_enter Try.func63, Try.ntmps63
        go_wp2
        go_ret
        exact ⟨by rw [H.out]; rfl, rfl⟩
  · have H : Hid (fits single (x - s) = false) := by simp [Hid, fits]; omega
    go_enter Try.func63, Try.ntmps63
    go_wp2
    go_ret
    exact ⟨by rw [H.out]; rfl, rfl⟩

/-- A slice of integers of the call's own: where it has elements it starts a block from B on. -/
def OwnInts (w : World) (B : Nat) (la : Option Addr) (n : Nat) (L : List Int) : Prop :=
  L.length = n ∧ (0 < n → ∃ g, la = some ⟨g, 0, none⟩ ∧ B ≤ g ∧ IntRow w g 3 L)

theorem OwnInts.of_row {w : World} {B n : Nat} {v : Value} {L : List Int} (h : w.ownsRow B 3 1 v n (L.map (Value.int .i64))) : ∃ la c, v = .slice la n c ∧ OwnInts w B la n L := by
  have hl : L.length = n := by have := h.1; simpa using this
  rcases h.2 with ⟨rfl, h0⟩ | ⟨g, cap, cur, rfl, hb, hh, h1, _, h3, h4⟩
  · subst h0; exact ⟨none, 0, rfl, hl, fun h => absurd h (by omega)⟩
  · refine ⟨_, _, rfl, hl, fun _ => ⟨g, rfl, hb, cur, hh, by omega, fun k hk => ?_⟩⟩
    have h5 : (cur.toList.take (n * 1))[k]? = (L.map (Value.int .i64))[k]? := by rw [h4]
    rw [List.getElem?_take_of_lt (by omega)] at h5
    simp only [Array.getElem?_toList, List.getElem?_map] at h5
    rw [h5]
    simp [ix, List.getD_eq_getElem?_getD, hk]

theorem OwnInts.ints {w : World} {B n : Nat} {la : Option Addr} {L : List Int} (h : OwnInts w B la n L) : Ints w la n L := by
  refine ⟨h.1, fun k hk => ?_⟩
  obtain ⟨g, rfl, _, hr⟩ := h.2 (by omega)
  exact ⟨g, 0, rfl, by rw [Nat.zero_add]; exact hr.cell k (by rw [h.1]; exact hk)⟩

theorem Try_infoInt : (Try.prog.info? 3).map (fun i => (i.zero, i.size, i.bytes)) = some (some (.int .i64 0), 1, 8) := by kernel_rfl

set_option maxRecDepth 10000 in
set_option maxHeartbeats 400000 in
theorem clone_any (ra : Option Addr) (n c : Nat) (L : List Int) (w : World) (hn : n ≤ 4000) (hL : Ints w ra n L) (hc : ra = none → c = 0) :
    Calls Try.prog 54 #[.slice ra n c] w fun e w' => ∃ la c', e = .returned (.slice la n c') ∧ Below w.heap.size w w' ∧ OwnInts w' w.heap.size la n L := by
  cases ra with
  | none =>
    obtain rfl := hc rfl
    have h0 : n = 0 := by
      rcases Nat.eq_zero_or_pos n with h | h
      · exact h
      · obtain ⟨b, o, e, _⟩ := hL.2 0 h; simp at e
    subst h0
    have hl : Hid (L.length = 0) := hL.1
    clear hL hc
    have hnil := fun w => Lib.run_eql_slice_nil (P := Try.prog) w 22 3 none 0 0 0 0 Try.underlying22
    go_enter Try.func54, Try.ntmps54
    go_wp2
    go_ret
    exact ⟨none, 0, rfl, Below.refl _ _, hl.out, fun h => absurd h (by omega)⟩
  | some ad =>
    have hnil := fun w => Lib.run_eql_slice_nil (P := Try.prog) w 22 3 (some ad) n c 0 0 Try.underlying22
    obtain ⟨i0, hi, hz0, hz1, hz2⟩ := info_parts Try_infoInt
    have hnews : Hid (∀ (j : Nat) (u : Value), (L.map (Value.int .i64))[j]? = some u → (w.alloc (.cells #[] 3)).cell? (ad.add j) = some u) := by
      intro j u hj
      have hjn : j < n := by
        rw [← hL.1]
        rcases Nat.lt_or_ge j L.length with h | h
        · exact h
        · rw [List.getElem?_eq_none (by simpa using h)] at hj; simp at hj
      obtain ⟨b, o, e, hcell⟩ := hL.2 j hjn
      simp only [Option.some.injEq] at e
      subst e
      have e2 : (⟨b, o, none⟩ : Addr).add j = ⟨b, o + j, none⟩ := by unfold Addr.add; split <;> simp_all
      rw [e2, World.cell?_alloc_lt _ _ _ (cell_lt hcell), hcell]
      have hjl : j < L.length := by rw [hL.1]; exact hjn
      simp [hjl] at hj
      rw [← hj]
      simp [ix, List.getD_eq_getElem?_getD, hjl]
    have hlen : Hid ((L.map (Value.int .i64)).length = n * 1) := by simp [Hid, hL.1]
    have hone : Hid (∀ u ∈ L.map (Value.int .i64), u.oneCell' = true) := by
      intro u hu
      obtain ⟨x, _, rfl⟩ := List.mem_map.1 hu
      rfl
    have hb : n ≤ maxLen := by unfold maxLen; omega
    clear hL hc
    go_enter Try.func54, Try.ntmps54
    go_wp2_with (at_builtin; refine wpList_append_own _ rfl _ _ 22 rfl w.heap.size 3 i0 (.int .i64 0) 1 8 Try.underlying22 hi hz0 hz1 hz2 rfl (by decide) _ 0 [] rfl (World.ownsRow_made w #[] 0 (Nat.le_refl _) (by unfold maxLen; omega) rfl) ad n c (L.map (Value.int .i64)) rfl hlen.out hnews.out hone.out (by omega) (by omega) (by simp) ?_)
    intro v' w1 hown hgrow _
    have ho := OwnInts.of_row (L := L) (by simpa using hown)
    have hbel : Below w.heap.size w w1 := ((Below.refl _ _).alloc (Nat.le_refl _) _).grown hgrow (by simp) (fun k hk => by simp [Value.ownBlock] at hk; omega)
    obtain ⟨la, c', rfl, ho⟩ := ho
    have HO := Lib.hid ho
    clear hown hgrow ho
    go_wp2
    go_ret
    exact ⟨la, c', rfl, hbel, HO.out⟩
end Go.Proofs.Ytaomlhhlefpdeaa
