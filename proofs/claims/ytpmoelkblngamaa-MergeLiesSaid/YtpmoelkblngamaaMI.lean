/- merge: what is inside behind one scan more: plain. -/
import Derived.Test.YtpmoelkblngamaaG2
namespace Go.Proofs.Ytpmoelkblngamaa

theorem insideS_len (l : List Scn) : (insideS l).length ≤ l.length := by
  have h1 : (insideS l).length ≤ ((mergeS l).map (·.serial)).length := List.Nodup.length_le_of_subset (strict_nodup KI (inside_is l).1) fun k hk => by
    obtain ⟨s, e, _⟩ := inside_mem.mp hk
    have ht := way_mem.mp (List.mem_of_getLast? e)
    exact List.mem_map.mpr ⟨s, ht.1, ht.2.2⟩
  rw [List.length_map] at h1
  have h2 : (mergeS l).length ≤ l.length := List.Nodup.length_le_of_subset (strict_nodup KS (setK_strict KS l)) fun a ha => (setK_mem KS l a).mp ha
  omega

theorem inside_far {l : List Scn} {x : Scn} (h : ∀ s ∈ l, KLt KS s x) : (∀ k, k ≠ x.serial → (k ∈ insideS (l ++ [x]) ↔ k ∈ insideS l)) ∧ (x.kind = 1 → x.serial ∈ insideS (l ++ [x])) ∧ (x.kind = 2 → x.serial ∉ insideS (l ++ [x])) ∧ (x.kind ≠ 1 → x.kind ≠ 2 → (x.serial ∈ insideS (l ++ [x]) ↔ x.serial ∈ insideS l)) := by
  have e : mergeS (l ++ [x]) = mergeS l ++ [x] := set_behind h
  refine ⟨fun k hk => ?_, fun hk => ?_, fun hk => ?_, fun h1 h2 => ?_⟩
  · rw [inside_mem, inside_mem, e]; exact in_other hk
  · rw [inside_mem, e]; exact in_in hk
  · rw [inside_mem, e]; exact in_out hk
  · rw [inside_mem, inside_mem, e]; exact in_same h1 h2 _
end Go.Proofs.Ytpmoelkblngamaa
