/- foyerref22.Valid. -/
import Derived.Test.YtaomlhhlefpdeaaD
import Derived.Test.YtaomlhhlefpdeaaF
namespace Go.Proofs.Ytaomlhhlefpdeaa
open Go.RowKit

theorem drop_pair (G : List (Int × Int)) (i : Nat) (h : i < G.length) : G.drop i = (gs G i, gv G i) :: G.drop (i + 1) := by
  have e : (gs G i, gv G i) = G[i] := by simp [gs, gv, List.getD_eq_getElem?_getD, h]
  rw [e, List.drop_eq_getElem_cons h]

set_option maxRecDepth 10000 in
set_option maxHeartbeats 1600000 in
theorem refvalid_any (ra ga : Option Addr) (n c m d : Nat) (single b : Bool) (R : List Int) (G : List (Int × Int)) (w : World)
    (hn : n ≤ 4000) (hm : m ≤ 4000) (hR : Ints w ra n R) (hG : Pairs w ga m G) (hb : validS R G = b) :
    Calls Try.prog 27 #[.agg #[.slice ra n c, .slice ga m d, .bool single]] w fun e w' => e = .returned (.bool b) ∧ Below w.heap.size w w' := by
  have HB := Lib.hid hb; have HR := Lib.hid hR; have HG := Lib.hid hG
  clear hb hR hG
  go_enter Try.func27, Try.ntmps27
  go_wp2
  go_loopw [3, 4] (fun v3 k wr => ∃ (i : Nat) (all : Int), i ≤ n ∧ v3 = .int .i64 all ∧ k = .int .i64 i ∧ 0 ≤ all ∧ all ≤ 4000 ∧ wr.cell? ⟨w.heap.size, 0, none⟩ = some (.slice ra n c) ∧ wr.cell? ⟨w.heap.size, 1, none⟩ = some (.slice ga m d) ∧ Below w.heap.size w wr ∧
      w.heap.size + 1 ≤ wr.heap.size ∧ Hid (runsOk 4000 R = runsOk (4000 - all) (R.drop i)))
    (fun _ k _ => n - (intOf k).toNat)
  case atStart => exact ⟨0, 0, Nat.zero_le _, rfl, rfl, by omega, by omega, by simp [go_sem], by simp [go_sem], (Below.refl _ _).alloc (Nat.le_refl _) _, by simp, rfl⟩
  case round =>
    obtain ⟨i, all, hi, rfl, rfl, hl0, hl1, hp0, hp1, hbl, hsz, HF⟩ := hrel
    by_cases hlt : i < n
    · obtain ⟨bb, o, rfl, r1⟩ := (HR.out.below hbl).2 i hlt
      have HD := Lib.hid (drop_ix R i (by rw [HR.out.1]; exact hlt))
      obtain ⟨x, hx⟩ : ∃ x, x = ix R i := ⟨_, rfl⟩
      rw [← hx] at r1 HD
      clear hx
      by_cases h1 : x < 1
      · have HX : Hid (validS R G = false) := by simp [Hid, validS, HF.out, HD.out, runsOk, h1]
        go_wp2
        go_ret
        exact ⟨by rw [← HB.out, HX.out]; rfl, hbl⟩
      · by_cases h2 : 4000 < x
        · have HX : Hid (validS R G = false) := by
            have : 4000 - all < x := by omega
            simp [Hid, validS, HF.out, HD.out, runsOk, this]
          go_wp2
          go_ret
          exact ⟨by rw [← HB.out, HX.out]; rfl, hbl⟩
        · by_cases h3 : 4000 < all + x
          · have HX : Hid (validS R G = false) := by
              have : 4000 - all < x := by omega
              simp [Hid, validS, HF.out, HD.out, runsOk, this]
            go_wp2
            go_ret
            exact ⟨by rw [← HB.out, HX.out]; rfl, hbl⟩
          · have HX : Hid (runsOk (4000 - all) (R.drop i) = runsOk (4000 - (all + x)) (R.drop (i + 1))) := by
              have : ¬ (x < 1 ∨ 4000 - all < x) := by omega
              rw [HD.out]; simp only [Hid, runsOk]; rw [if_neg this]; congr 1; omega
            go_wp2
            go_roundw
            case rel => exact ⟨i + 1, all + x, by omega, rfl, by go_num, by omega, by omega, hp0, hp1, hbl, hsz, by rw [HF.out, HX.out]; rfl⟩
            case measure => simp [intOf]; omega
    · have H0 : Hid (validS R G = groupsOk G) := by
        have : R.drop i = [] := List.drop_eq_nil_of_le (by rw [HR.out.1]; omega)
        have h2 := HF.out; rw [this] at h2
        simp [Hid, validS, h2, runsOk, HG.out.1, hm]
      go_wp2
      obtain ⟨wo, rfl⟩ : ∃ wo : World, wo = wr := ⟨_, rfl⟩
      go_loopw [5, 6] (fun v5 _ wr => ∃ k : Nat, k ≤ m ∧ v5 = .int .i64 k ∧ wr.cell? ⟨w.heap.size, 1, none⟩ = some (.slice ga m d) ∧ Below w.heap.size w wr ∧ w.heap.size + 1 ≤ wr.heap.size ∧ Hid (groupsOk G = groupsOk (G.drop k)))
        (fun v5 _ _ => m - (intOf v5).toNat)
      case atStart => exact ⟨0, Nat.zero_le _, rfl, hp1, hbl, hsz, rfl⟩
      case round =>
        clear hp0 hp1 hbl hsz HF
        obtain ⟨k, hk, rfl, hp1, hbl, hsz, HF⟩ := hrel
        by_cases hlt2 : k < m
        · obtain ⟨bg, og, rfl, c1, c2⟩ := (HG.out.below hbl).2 k hlt2
          have HD := Lib.hid (drop_pair G k (by rw [HG.out.1]; exact hlt2))
          obtain ⟨s, hs⟩ : ∃ x, x = gs G k := ⟨_, rfl⟩
          obtain ⟨v, hv⟩ : ∃ x, x = gv G k := ⟨_, rfl⟩
          rw [← hs] at c1 HD; rw [← hv] at c2 HD
          clear hs hv
          have hbl2 : ∀ o, Below w.heap.size w (wr.alloc o) := fun o => hbl.alloc hbl.size o
          have HBL2 := Lib.hid hbl2
          have HBL := Lib.hid hbl
          clear hbl hbl2
          have HBAD : Hid (badG s v = true → validS R G = false) := fun h => by rw [H0.out, HF.out, HD.out]; simp [groupsOk, h]
          by_cases h1 : s < 1
          · have HX : Hid (validS R G = false) := HBAD.out (by simp [badG, h1])
            go_wp2
            go_ret
            exact ⟨by rw [← HB.out, HX.out]; rfl, HBL2.out _⟩
          · by_cases h2 : 12 < s
            · have HX : Hid (validS R G = false) := HBAD.out (by simp [badG, h2])
              go_wp2
              go_ret
              exact ⟨by rw [← HB.out, HX.out]; rfl, HBL2.out _⟩
            · by_cases h3 : v < 0
              · have HX : Hid (validS R G = false) := HBAD.out (by simp [badG, h3])
                go_wp2
                go_ret
                exact ⟨by rw [← HB.out, HX.out]; rfl, HBL2.out _⟩
              · by_cases h4 : 1000000 < v
                · have HX : Hid (validS R G = false) := HBAD.out (by simp [badG, h4])
                  go_wp2
                  go_ret
                  exact ⟨by rw [← HB.out, HX.out]; rfl, HBL2.out _⟩
                · have HX : Hid (groupsOk (G.drop k) = groupsOk (G.drop (k + 1))) := by
                    rw [HD.out]; simp [Hid, groupsOk, badG]; omega
                  have hne := World.new_ne wr _ hp1
                  go_wp2
                  go_roundw
                  case rel => exact ⟨k + 1, by omega, by go_num, by rw [World.cell?_alloc_lt _ _ _ (cell_lt hp1)]; exact hp1, HBL2.out _, by simp; omega, by rw [HF.out, HX.out]; rfl⟩
                  case measure => simp [intOf]; omega
        · have HX : Hid (validS R G = true) := by
            rw [H0.out, HF.out, List.drop_eq_nil_of_le (by rw [HG.out.1]; omega)]; rfl
          go_wp2
          go_ret
          exact ⟨by rw [← HB.out, HX.out]; rfl, hbl⟩
end Go.Proofs.Ytaomlhhlefpdeaa
