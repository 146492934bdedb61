/- merge: foyerref38.Light: the walk; merge: what is inside behind one scan more: plain; merge: there are not too many blames: plain. -/
import Derived.Test.YtpmoelkblngamaaQMMR09
import Derived.Test.YtpmoelkblngamaaQMMR19

namespace Go.Proofs.Ytpmoelkblngamaa
open Go.RowKit Go.IntWalk Go.Maps Go.WideMaps

def numW (x : Scn) : Int := if 1 ≤ x.number ∧ x.number ≤ 4000 then x.number else 0
def sumN (l : List Scn) : Int := (l.map numW).sum

theorem numW_le (x : Scn) : 0 ≤ numW x ∧ numW x ≤ 4000 := by
  unfold numW
  split <;> omega
theorem sumN_nn (l : List Scn) : 0 ≤ sumN l := by
  induction l with
  | nil => exact Int.le_refl _
  | cons x l ih =>
    have h := (numW_le x).1
    unfold sumN at ih ⊢
    rw [List.map_cons, List.sum_cons]
    omega
theorem sumN_app (a b : List Scn) : sumN (a ++ b) = sumN a + sumN b := by
  unfold sumN
  rw [List.map_append, List.sum_append]
theorem sumN_take (l : List Scn) (i : Nat) : sumN (l.take i) ≤ sumN l := by
  have h := sumN_app (l.take i) (l.drop i)
  rw [List.take_append_drop] at h
  have := sumN_nn (l.drop i)
  omega
theorem sumN_next {l : List Scn} {i : Nat} (h : i < l.length) : sumN (l.take (i + 1)) = sumN (l.take i) + numW l[i] := by
  rw [List.take_succ_eq_append_getElem h, sumN_app]
  simp [sumN]

/-- The numbers from 1 to 4000 are at most 9000 together. -/
def lightB (l : List Scn) : Bool := decide (sumN l ≤ 9000)

set_option maxRecDepth 10000 in
set_option maxHeartbeats 1600000 in
theorem light_any (ra : Option Addr) (n c : Nat) (l : List Scn) (w : World) (h : Recs ScnE w ra n l) (hn : n ≤ 1000000) :
    Calls Try.prog 12 #[.slice ra n c] w fun e w' => e = .returned (.bool (lightB l)) ∧ w = w' := by
  have HL := Lib.hid h
  have hlen := h.1
  clear h
  go_enter Try.func12, Try.ntmps12
  go_wp2_with fail
  go_loopw [3, 4] (fun v3 v4 wr => ∃ (i : Nat) (t : Int), v4 = .int .i64 i ∧ v3 = .int .i64 t ∧ i ≤ n ∧ w = wr ∧ Hid (t = sumN (l.take i)) ∧ 0 ≤ t ∧ t ≤ 13000) (fun _ v4 _ => n - (intOf v4).toNat)
  case atStart => exact ⟨0, 0, rfl, rfl, Nat.zero_le _, rfl, rfl, by omega, by omega⟩
  case round =>
    obtain ⟨i, t, rfl, rfl, hi, rfl, HT, ht0, ht1⟩ := hrel
    by_cases hlt : i < n
    · by_cases h9 : t ≤ 9000
      · have h1 : i < l.length := by omega
        obtain ⟨b1, o1, rfl, c0, c1, c2, c3, c4, c5⟩ := scn_at HL.out i hlt h1
        have HS := Lib.hid (sumN_next h1)
        generalize l[i] = x at *
        clear h1
        by_cases hx : 1 ≤ x.number ∧ x.number ≤ 4000
        · have HN : Hid (t + x.number = sumN (l.take (i + 1))) := by
            show _ = _
            rw [HS.out, ← HT.out]
            unfold numW
            rw [if_pos hx]
          have hx1 := hx.1
          have hx2 := hx.2
          clear hx
          go_wp2_with fail
          go_roundw
          case rel => exact ⟨i + 1, t + x.number, by go_num, by go_num, hlt, trivial, HN, by omega, by omega⟩
          case measure => simp [intOf]; omega
        · have HN : Hid (t = sumN (l.take (i + 1))) := by
            show _ = _
            rw [HS.out, ← HT.out]
            unfold numW
            rw [if_neg hx, Int.add_zero]
          by_cases hx1 : 1 ≤ x.number
          · have hx2 : ¬ x.number ≤ 4000 := fun h => hx ⟨hx1, h⟩
            clear hx
            go_wp2_with fail
            go_roundw
            case rel => exact ⟨i + 1, t, by go_num, rfl, hlt, trivial, HN, ht0, ht1⟩
            case measure => simp [intOf]; omega
          · clear hx
            go_wp2_with fail
            go_roundw
            case rel => exact ⟨i + 1, t, by go_num, rfl, hlt, trivial, HN, ht0, ht1⟩
            case measure => simp [intOf]; omega
      · have HR : Hid (lightB l = false) := decide_eq_false (by have := sumN_take l i; rw [← HT.out] at this; omega)
        have hr : decide (t ≤ 9000) = false := decide_eq_false h9
        go_wp2_with fail
        go_ret
        exact ⟨by rw [HR.out]; rfl, rfl⟩
    · have HR : Hid (lightB l = decide (t ≤ 9000)) := by
        show _ = _
        unfold lightB
        rw [HT.out, List.take_of_length_le (by omega)]
      go_wp2_with fail
      go_ret
      exact ⟨by rw [HR.out]; rfl, rfl⟩
end Go.Proofs.Ytpmoelkblngamaa

namespace Go.Proofs.Ytpmoelkblngamaa

theorem insideS_len (l : List Scn) : (insideS l).length ≤ l.length := by
  have h1 : (insideS l).length ≤ ((mergeS l).map (·.serial)).length := List.Nodup.length_le_of_subset (strict_nodup KI (inside_is l).1) fun k hk => by
    obtain ⟨s, e, _⟩ := inside_mem.mp hk
    have ht := way_mem.mp (List.mem_of_getLast? e)
    exact List.mem_map.mpr ⟨s, ht.1, ht.2.2⟩
  rw [List.length_map] at h1
  have h2 : (mergeS l).length ≤ l.length := List.Nodup.length_le_of_subset (strict_nodup KS (setK_strict KS l)) fun a ha => (setK_mem KS l a).mp ha
  omega

theorem inside_far {l : List Scn} {x : Scn} (h : ∀ s ∈ l, KLt KS s x) : (∀ k, k ≠ x.serial → (k ∈ insideS (l ++ [x]) ↔ k ∈ insideS l)) ∧ (x.kind = 1 → x.serial ∈ insideS (l ++ [x])) ∧ (x.kind = 2 → x.serial ∉ insideS (l ++ [x])) ∧ (x.kind ≠ 1 → x.kind ≠ 2 → (x.serial ∈ insideS (l ++ [x]) ↔ x.serial ∈ insideS l)) := by
  have e : mergeS (l ++ [x]) = mergeS l ++ [x] := set_behind h
  refine ⟨fun k hk => ?_, fun hk => ?_, fun hk => ?_, fun h1 h2 => ?_⟩
  · rw [inside_mem, inside_mem, e]; exact in_other hk
  · rw [inside_mem, e]; exact in_in hk
  · rw [inside_mem, e]; exact in_out hk
  · rw [inside_mem, inside_mem, e]; exact in_same h1 h2 _
end Go.Proofs.Ytpmoelkblngamaa

namespace Go.Proofs.Ytpmoelkblngamaa

theorem flatMap_le {α β : Type} {f : α → List β} {c : Nat} (h : ∀ a, (f a).length ≤ c) (l : List α) : (l.flatMap f).length ≤ l.length * c := by
  induction l with
  | nil => exact Nat.zero_le _
  | cons a l ih =>
    rw [List.flatMap_cons, List.length_append, List.length_cons, Nat.add_mul, Nat.one_mul]
    have := h a
    omega

def candS (gone : List GoneT) (x : List Scn) (s : Scn) : List Blm := [forkB s, staleB s (sinceS gone s.serial)] ++ (x.flatMap fun t => [orderB s t, copyB s t, fork2B s t]) ++ (List.range 4000).map fun n : Nat => gapB s.gate n s.number

theorem cand_len (gone : List GoneT) (x : List Scn) (s : Scn) : (candS gone x s).length ≤ 4002 + x.length * 3 := by
  unfold candS
  have h := flatMap_le (f := fun t => [orderB s t, copyB s t, fork2B s t]) (c := 3) (fun a => Nat.le_refl _) x
  simp only [List.length_append, List.length_map, List.length_range, List.length_cons, List.length_nil]
  omega

theorem cand_mem {gone : List GoneT} {st : Int} {x : List Scn} {b : Blm} (h : IsBl gone st x b) : b ∈ x.flatMap (candS gone x) := by
  rw [List.mem_flatMap]
  have hp : ∀ {s t : Scn}, s ∈ x → t ∈ x → (b = orderB s t ∨ b = copyB s t ∨ b = fork2B s t) → ∃ a ∈ x, b ∈ candS gone x a := fun {s t} hs ht hb => by
    refine ⟨s, hs, List.mem_append_left _ (List.mem_append_right _ (List.mem_flatMap.mpr ⟨t, ht, ?_⟩))⟩
    rcases hb with rfl | rfl | rfl <;> simp
  rcases h with ⟨g, h⟩ | ⟨k, h⟩
  · rcases h with ⟨pre, s, post, e, _, rfl⟩ | ⟨s, t, hs, ht, _, _, _, rfl⟩ | ⟨u, n, hu, _, hm, h1, h2, _, rfl⟩
    · have hs : s ∈ gateL x g := by rw [e]; simp
      exact ⟨s, (gate_mem.mp hs).1, List.mem_append_left _ (List.mem_append_left _ (by simp))⟩
    · exact hp (gate_mem.mp (first_mem _ s hs)).1 (gate_mem.mp (first_mem _ t ht)).1 (Or.inl rfl)
    · refine ⟨u, (gate_mem.mp hu).1, List.mem_append_right _ (List.mem_map.mpr ⟨n.toNat, List.mem_range.mpr (by omega), ?_⟩)⟩
      rw [Int.toNat_of_nonneg (by omega)]
  · rcases h with ⟨s, hs, _, _, _, _, rfl⟩ | ⟨pre, t, s, post, e, _, _, _, rfl⟩ | ⟨pre, t, s, post, e, _, _, _, _, rfl⟩
    · exact ⟨s, (way_mem.mp hs).1, List.mem_append_left _ (List.mem_append_left _ (by simp))⟩
    · have hs : s ∈ wayL x k := by rw [e]; simp
      have ht : t ∈ wayL x k := by rw [e]; simp
      exact hp (way_mem.mp hs).1 (way_mem.mp ht).1 (Or.inr (Or.inl rfl))
    · have hs : s ∈ wayL x k := by rw [e]; simp
      have ht : t ∈ wayL x k := by rw [e]; simp
      exact hp (way_mem.mp hs).1 (way_mem.mp ht).1 (Or.inr (Or.inr rfl))

theorem mergeS_len (l : List Scn) : (mergeS l).length ≤ l.length := List.Nodup.length_le_of_subset (strict_nodup KS (setK_strict KS l)) fun a ha => (setK_mem KS l a).mp ha

theorem blamesS_len {gone : List GoneT} {stale : Int} {l : List Scn} (h : (mergeS l).length ≤ 100) : (blamesS gone stale l).length ≤ 1000000 := by
  have h1 : (blamesS gone stale l).length ≤ ((mergeS l).flatMap (candS gone (mergeS l))).length := List.Nodup.length_le_of_subset (strict_nodup KB (blames_is gone stale l).1) fun b hb => cand_mem (blames_mem.mp hb)
  have h2 := flatMap_le (cand_len gone (mergeS l)) (mergeS l)
  have h3 := Nat.mul_le_mul h (show 4002 + (mergeS l).length * 3 ≤ 4302 by omega)
  omega
end Go.Proofs.Ytpmoelkblngamaa
