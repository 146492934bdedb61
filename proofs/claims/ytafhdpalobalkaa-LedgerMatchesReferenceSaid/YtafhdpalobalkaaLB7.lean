/- ledger: Balance: the walk; the accounts behind a ledger's balances. -/
import Derived.RegionTactic
import Derived.BigRegion
import Derived.Test.YtafhdpalobalkaaLB6
namespace Go.Proofs.Ytafhdpalobalkaa
open Go.RowKit Go.IntWalk Go.Maps Go.ChangeMaps

theorem accS_wf {a : AccT} (h : accS a = true) : WfA a := by
  unfold accS at h
  by_cases h1 : 1 ≤ a.1 ∧ a.1 ≤ 3
  · rw [if_pos h1] at h
    refine ⟨wf_int (by omega) (by omega), ?_⟩
    rw [List.isEmpty_iff.mp h]
    exact Nat.zero_le _
  · rw [if_neg h1] at h
    by_cases h2 : 4 ≤ a.1 ∧ a.1 ≤ 6
    · rw [if_pos h2] at h
      refine ⟨wf_int (by omega) (by omega), ?_⟩
      unfold nameS at h
      simp only [Bool.and_eq_true, decide_eq_true_eq] at h
      have := h.2.2
      unfold maxLen
      omega
    · rw [if_neg h2] at h
      simp at h

theorem formed_acc {b : BookT} (h : formedS b = true) {i : Nat} (hi : i < b.2.length) : accS (pk b.2 i, pn b.2 i) = true := by
  unfold formedS at h
  simp only [Bool.and_eq_true, decide_eq_true_eq, Bool.not_eq_true'] at h
  obtain ⟨_, _, h5⟩ := h
  have h6 : badS ((pk b.2 i, pn b.2 i), pa b.2 i) = false := by
    cases hh : badS ((pk b.2 i, pn b.2 i), pa b.2 i)
    · rfl
    · rw [any_yes hi hh] at h5; simp at h5
  unfold badS at h6
  simp only [Bool.or_eq_false_iff, Bool.not_eq_false'] at h6
  exact h6.1

theorem fold_wf : ∀ (Bs : List BookT) (f : AccT → Int), (∀ b ∈ Bs, formedS b = true) → (∀ a, f a ≠ 0 → WfA a) → ∀ a, (Bs.foldl (fun f b => sumF f b.2 b.2.length) f) a ≠ 0 → WfA a := by
  intro Bs
  induction Bs with
  | nil => intro f _ hf a ha; exact hf a ha
  | cons b Bs ih =>
    intro f hb hf
    refine ih _ (fun x hx => hb x (List.mem_cons_of_mem _ hx)) (fun a ha => ?_)
    by_cases hex : ∃ i, i < b.2.length ∧ (pk b.2 i, pn b.2 i) = a
    · obtain ⟨i, hi, e⟩ := hex
      rw [← e]
      exact accS_wf (formed_acc (hb b (List.mem_cons_self ..)) hi)
    · dsimp only at ha
      rw [sumF_out (fun i hi e => hex ⟨i, hi, e⟩) b.2.length (Nat.le_refl _)] at ha
      exact hf a ha

theorem BsOk.wf {Bs : List BookT} (h : BsOk Bs) (a : AccT) (ha : balS Bs a ≠ 0) : WfA a := fold_wf Bs (fun _ => 0) h.formed (fun _ h => absurd rfl h) a ha

set_option maxRecDepth 10000 in
theorem balance_any (S : Nat → Prop) (g : Nat) (Bs : List BookT) (k : Int) (t : Name) (w : World) (hL : LedAt w S g Bs) (ha : WfA (k, t)) :
    Calls Try.prog 17 #[.pointer (some ⟨g, 0, none⟩), .agg #[.int .i64 k, .string (bs t)]] w fun e w' => e = .returned (.int .i64 (balS Bs (k, t))) ∧ Below w.heap.size w w' := by
  obtain ⟨w1, hw1⟩ : ∃ w1, w1 = w.alloc (.cells #[.int .i64 k, .string (bs t)] 39) := ⟨_, rfl⟩
  have hb := Joins.below_alloc1 w (.cells #[.int .i64 k, .string (bs t)] 39)
  have hn := World.alloc_heap_new w (.cells #[.int .i64 k, .string (bs t)] 39)
  rw [← hw1] at hb hn
  have HB := Lib.hid hb
  obtain ⟨la, n, cc, M, I, rs, hc⟩ := hL.below hb
  have g1 : w1.cell? ⟨g, 1, none⟩ = some (.map (some M)) := by rw [cell_of_row _ _ _ _ _ _ hc.box]; rfl
  have x0 : w1.cell? ⟨w.heap.size, 0, none⟩ = some (.int .i64 k) := by rw [cell_of_row _ _ _ _ _ _ hn]; rfl
  have x1 : w1.cell? ⟨w.heap.size, 1, none⟩ = some (.string (bs t)) := by rw [cell_of_row _ _ _ _ _ _ hn]; rfl
  have hlook : (Instr.lookup 52 (.map (some M)) (.agg #[.int .i64 k, .string (bs t)]) false).run Try.prog w1.drew = .ok (.int .i64 (balS Bs (k, t))) w1.drew :=
    BalM.look (w := w1.drew) hc.bal (k, t) ha
  clear hb hn hc
  go_enter Try.func17, Try.ntmps17
  go_upto_region 1 with fail
  rw [← hw1]
  clear hw1
  go_upto_region 3 with fail
  go_region
  go_wp2_with fail
  go_ret
  exact ⟨by rfl, HB.out.drew⟩
end Go.Proofs.Ytafhdpalobalkaa
