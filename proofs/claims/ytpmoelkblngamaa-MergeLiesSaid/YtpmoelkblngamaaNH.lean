/- merge: honest gates: no blames, who is inside, what the scans keep: plain. -/
import Derived.Test.YtpmoelkblngamaaMB
import Derived.Test.YtpmoelkblngamaaNB
namespace Go.Proofs.Ytpmoelkblngamaa

theorem wf_small {x : Int} (h0 : -1000000 ≤ x) (h1 : x ≤ 1000000) : (Lit.int .i64 x).wf = true := by
  simp only [Lit.wf, Bool.and_eq_true, decide_eq_true_eq]
  have a : IntKind.i64.min ≤ x := by rw [show IntKind.i64.min = -9223372036854775808 from by decide +kernel]; omega
  have b : x ≤ IntKind.i64.max := by rw [show IntKind.i64.max = 9223372036854775807 from by decide +kernel]; omega
  exact ⟨a, b⟩

/-- What the scans of honest gates keep. -/
def OkH (s : Scn) : Prop := 1 ≤ s.gate ∧ s.gate ≤ 4 ∧ 1 ≤ s.number ∧ s.number ≤ 1000 ∧ 1 ≤ s.time ∧ s.time ≤ 300000 ∧ 0 ≤ s.serial ∧ s.serial ≤ 255 ∧ (s.kind = 1 ∨ s.kind = 2) ∧ s.owner = []
theorem OkH.wf {s : Scn} (h : OkH s) : WfS s := by
  obtain ⟨a, b, c, d, e, f, g, i, j, _⟩ := h
  exact ⟨wf_small (by omega) (by omega), wf_small (by omega) (by omega), wf_small (by omega) (by omega), wf_small (by omega) (by omega), wf_small (by omega) (by omega)⟩

theorem hon_ok (l : List StepT) (hb : ∀ s ∈ l, s.1 ≤ 255 ∧ s.2.1 ≤ 255 ∧ s.2.2 ≤ 255) (hn : l.length ≤ 60) : ∀ s ∈ (honS l).out, OkH s := by
  induction l using snoc_ind with
  | h0 => exact fun s hs => by cases hs
  | h1 l x ih =>
    rw [List.length_append, List.length_singleton] at hn
    have hb' : ∀ s ∈ l, s.1 ≤ 255 ∧ s.2.1 ≤ 255 ∧ s.2.2 ≤ 255 := fun s hs => hb s (List.mem_append_left _ hs)
    have hx := hb x (List.mem_append_right _ (List.mem_singleton.mpr rfl))
    have ih := ih hb' (by omega)
    have e : honS (l ++ [x]) = honStep (honS l) x := by unfold honS; rw [List.foldl_append]; rfl
    rw [e]
    intro s hs
    rcases List.mem_append.mp hs with hs | hs
    · exact ih s hs
    · rw [List.mem_singleton.mp hs]
      have h1 := hon_now l fun s hs => (hb' s hs).2.2
      have h2 := hon_nm l (1 + x.1 % 4)
      refine ⟨?_, ?_, ?_, ?_, ?_, ?_, ?_, ?_, ?_, rfl⟩ <;> dsimp only <;> try omega

theorem hon_merge (l : List StepT) : mergeS (honS l).out = (honS l).out := setK_self (hon_strict (hon_all l))

theorem hon_blames (l : List StepT) : blamesS [] 0 (honS l).out = [] := by
  rw [List.eq_nil_iff_forall_not_mem]
  intro b hb
  have hb := blames_mem.mp hb
  rw [hon_merge] at hb
  exact hon_bl (hon_all l) _ b hb

/-- The titles below a number that passed an odd number of times. -/
def oddT (l : List StepT) (s : Nat) : List Int := ((List.range s).filter fun k => decide (cntS l k % 2 = 1)).map fun k : Nat => (k : Int)

theorem odd_next (l : List StepT) (s : Nat) : oddT l (s + 1) = oddT l s ++ if cntS l s % 2 = 1 then [(s : Int)] else [] := by
  unfold oddT
  rw [List.range_succ, List.filter_append, List.map_append]
  by_cases h : cntS l s % 2 = 1 <;> simp [h]
theorem odd_len (l : List StepT) (s : Nat) : (oddT l s).length ≤ s := by
  unfold oddT
  rw [List.length_map]
  refine Nat.le_trans (List.length_filter_le _ _) ?_
  rw [List.length_range]
  exact Nat.le_refl _

theorem hon_inside (l : List StepT) (hb : ∀ s ∈ l, s.1 ≤ 255 ∧ s.2.1 ≤ 255 ∧ s.2.2 ≤ 255) (hn : l.length ≤ 60) : insideS (honS l).out = oddT l 256 := by
  refine (inside_eq ⟨ints_strict ?_, fun k => ?_⟩).symm
  · unfold oddT
    exact ((List.pairwise_lt_range (n := 256)).sublist List.filter_sublist).map _ fun a b h => by show (a : Int) < (b : Int); omega
  · rw [hon_merge, hon_in (hon_all l)]
    unfold oddT
    constructor
    · intro h
      obtain ⟨j, hj, rfl⟩ := List.mem_map.mp h
      have := (List.mem_filter.mp hj).2
      rw [hon_len]
      simpa using this
    · intro h
      have hne : wayL (honS l).out k ≠ [] := fun e => by rw [e] at h; simp at h
      obtain ⟨s, hs⟩ := List.exists_mem_of_ne_nil _ hne
      obtain ⟨h1, _, rfl⟩ := way_mem.mp hs
      obtain ⟨_, _, _, _, _, _, g0, g1, _⟩ := hon_ok l hb hn s h1
      rw [show s.serial = ((s.serial.toNat : Nat) : Int) from by omega, hon_len] at h
      exact List.mem_map.mpr ⟨s.serial.toNat, List.mem_filter.mpr ⟨List.mem_range.mpr (by omega), by simpa using h⟩, by omega⟩

theorem cnt_next {l : List StepT} {i : Nat} (h : i < l.length) (k : Nat) : cntS (l.take (i + 1)) k = cntS (l.take i) k + if l[i].2.1 = k then 1 else 0 := by
  unfold cntS
  rw [List.take_succ_eq_append_getElem h, List.filter_append, List.length_append]
  by_cases e : l[i].2.1 = k <;> simp [e]
theorem cnt_le (l : List StepT) (k : Nat) : cntS l k ≤ l.length := by
  unfold cntS
  exact List.length_filter_le _ _
end Go.Proofs.Ytpmoelkblngamaa
