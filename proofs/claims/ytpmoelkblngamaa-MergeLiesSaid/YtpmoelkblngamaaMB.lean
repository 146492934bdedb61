/- merge: there are not too many blames: plain. -/
import Derived.Test.YtpmoelkblngamaaMI
namespace Go.Proofs.Ytpmoelkblngamaa

theorem flatMap_le {α β : Type} {f : α → List β} {c : Nat} (h : ∀ a, (f a).length ≤ c) (l : List α) : (l.flatMap f).length ≤ l.length * c := by
  induction l with
  | nil => exact Nat.zero_le _
  | cons a l ih =>
    rw [List.flatMap_cons, List.length_append, List.length_cons, Nat.add_mul, Nat.one_mul]
    have := h a
    omega

def candS (gone : List GoneT) (x : List Scn) (s : Scn) : List Blm := [forkB s, staleB s (sinceS gone s.serial)] ++ (x.flatMap fun t => [orderB s t, copyB s t, fork2B s t]) ++ (List.range 4000).map fun n : Nat => gapB s.gate n s.number

theorem cand_len (gone : List GoneT) (x : List Scn) (s : Scn) : (candS gone x s).length ≤ 4002 + x.length * 3 := by
  unfold candS
  have h := flatMap_le (f := fun t => [orderB s t, copyB s t, fork2B s t]) (c := 3) (fun a => Nat.le_refl _) x
  simp only [List.length_append, List.length_map, List.length_range, List.length_cons, List.length_nil]
  omega

theorem cand_mem {gone : List GoneT} {st : Int} {x : List Scn} {b : Blm} (h : IsBl gone st x b) : b ∈ x.flatMap (candS gone x) := by
  rw [List.mem_flatMap]
  have hp : ∀ {s t : Scn}, s ∈ x → t ∈ x → (b = orderB s t ∨ b = copyB s t ∨ b = fork2B s t) → ∃ a ∈ x, b ∈ candS gone x a := fun {s t} hs ht hb => by
    refine ⟨s, hs, List.mem_append_left _ (List.mem_append_right _ (List.mem_flatMap.mpr ⟨t, ht, ?_⟩))⟩
    rcases hb with rfl | rfl | rfl <;> simp
  rcases h with ⟨g, h⟩ | ⟨k, h⟩
  · rcases h with ⟨pre, s, post, e, _, rfl⟩ | ⟨s, t, hs, ht, _, _, _, rfl⟩ | ⟨u, n, hu, _, hm, h1, h2, _, rfl⟩
    · have hs : s ∈ gateL x g := by rw [e]; simp
      exact ⟨s, (gate_mem.mp hs).1, List.mem_append_left _ (List.mem_append_left _ (by simp))⟩
    · exact hp (gate_mem.mp (first_mem _ s hs)).1 (gate_mem.mp (first_mem _ t ht)).1 (Or.inl rfl)
    · refine ⟨u, (gate_mem.mp hu).1, List.mem_append_right _ (List.mem_map.mpr ⟨n.toNat, List.mem_range.mpr (by omega), ?_⟩)⟩
      rw [Int.toNat_of_nonneg (by omega)]
  · rcases h with ⟨s, hs, _, _, _, _, rfl⟩ | ⟨pre, t, s, post, e, _, _, _, rfl⟩ | ⟨pre, t, s, post, e, _, _, _, _, rfl⟩
    · exact ⟨s, (way_mem.mp hs).1, List.mem_append_left _ (List.mem_append_left _ (by simp))⟩
    · have hs : s ∈ wayL x k := by rw [e]; simp
      have ht : t ∈ wayL x k := by rw [e]; simp
      exact hp (way_mem.mp hs).1 (way_mem.mp ht).1 (Or.inr (Or.inl rfl))
    · have hs : s ∈ wayL x k := by rw [e]; simp
      have ht : t ∈ wayL x k := by rw [e]; simp
      exact hp (way_mem.mp hs).1 (way_mem.mp ht).1 (Or.inr (Or.inr rfl))

theorem mergeS_len (l : List Scn) : (mergeS l).length ≤ l.length := List.Nodup.length_le_of_subset (strict_nodup KS (setK_strict KS l)) fun a ha => (setK_mem KS l a).mp ha

theorem blamesS_len {gone : List GoneT} {stale : Int} {l : List Scn} (h : (mergeS l).length ≤ 100) : (blamesS gone stale l).length ≤ 1000000 := by
  have h1 : (blamesS gone stale l).length ≤ ((mergeS l).flatMap (candS gone (mergeS l))).length := List.Nodup.length_le_of_subset (strict_nodup KB (blames_is gone stale l).1) fun b hb => cand_mem (blames_mem.mp hb)
  have h2 := flatMap_le (cand_len gone (mergeS l)) (mergeS l)
  have h3 := Nat.mul_le_mul h (show 4002 + (mergeS l).length * 3 ≤ 4302 by omega)
  omega
end Go.Proofs.Ytpmoelkblngamaa
