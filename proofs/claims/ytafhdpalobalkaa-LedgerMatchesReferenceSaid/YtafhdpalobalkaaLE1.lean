/- foyerlaw27.posted, foyerref27.SameBookings: the walks. -/
import Derived.Laws.StructEq
import Derived.RegionTactic
import Derived.BigRegion
import Derived.Test.YtafhdpalobalkaaLD3
namespace Go.Proofs.Ytafhdpalobalkaa
open Go.RowKit Go.IntWalk

theorem formed_amt {b : BookT} (h : formedS b = true) {i : Nat} (hi : i < b.2.length) : -1000000000 ≤ pa b.2 i ∧ pa b.2 i ≤ 1000000000 := by
  unfold formedS at h
  simp only [Bool.and_eq_true, decide_eq_true_eq, Bool.not_eq_true'] at h
  obtain ⟨_, _, h5⟩ := h
  have h6 : badS ((pk b.2 i, pn b.2 i), pa b.2 i) = false := by
    cases hh : badS ((pk b.2 i, pn b.2 i), pa b.2 i)
    · rfl
    · rw [any_yes hi hh] at h5; simp at h5
  unfold badS at h6
  simp only [Bool.or_eq_false_iff, Bool.not_eq_false'] at h6
  exact (amtB_iff _).mp h6.2.1

theorem formed_len {b : BookT} (h : formedS b = true) : 2 ≤ b.2.length ∧ b.2.length ≤ 20 := by
  unfold formedS at h
  simp only [Bool.and_eq_true, decide_eq_true_eq, Bool.not_eq_true'] at h
  exact h.2.1

theorem sum0_le {l : List PostT} (a : AccT) (hl : ∀ i, i < l.length → -1000000000 ≤ pa l i ∧ pa l i ≤ 1000000000) : ∀ i, i ≤ l.length → -1000000000 * (i : Int) ≤ sumF (fun _ => 0) l i a ∧ sumF (fun _ => 0) l i a ≤ 1000000000 * (i : Int) := by
  intro i
  induction i with
  | zero => intro _; show _ ≤ (0 : Int) ∧ (0 : Int) ≤ _; omega
  | succ i ih =>
    intro h
    have h1 := ih (by omega)
    have h2 := hl i (by omega)
    show _ ≤ plusF _ _ _ ∧ plusF _ _ _ ≤ _
    unfold plusF
    dsimp only
    split <;> omega

theorem parts_le {b : BookT} (h : formedS b = true) (a : AccT) : -20000000000 ≤ parts a b ∧ parts a b ≤ 20000000000 := by
  have h1 := sum0_le a (fun i hi => formed_amt h hi) b.2.length (Nat.le_refl _)
  have h2 := formed_len h
  unfold parts
  omega

theorem bal_le : ∀ (Bs : List BookT) (a : AccT), (∀ b ∈ Bs, formedS b = true) → -20000000000 * (Bs.length : Int) ≤ balS Bs a ∧ balS Bs a ≤ 20000000000 * (Bs.length : Int) := by
  intro Bs a
  rw [balS_sum]
  induction Bs with
  | nil => intro _; show _ ≤ (0 : Int) ∧ (0 : Int) ≤ _; simp
  | cons b Bs ih =>
    intro h
    have h1 := ih (fun x hx => h x (List.mem_cons_of_mem _ hx))
    have h2 := parts_le (h b (List.mem_cons_self ..)) a
    rw [List.map_cons, List.sum_cons, List.length_cons]
    omega

/-- All the sums on the way are small. -/
theorem way_le {Bs : List BookT} (h : ∀ b ∈ Bs, formedS b = true) (hl : Bs.length ≤ 100) (a : AccT) (i k : Nat) (hi : i < Bs.length) (hk : k ≤ (Bs[i]).2.length) :
    -3000000000000 ≤ sumF (balS (Bs.take i)) (Bs[i]).2 k a ∧ sumF (balS (Bs.take i)) (Bs[i]).2 k a ≤ 3000000000000 := by
  have h1 := bal_le (Bs.take i) a (fun b hb => h b (List.mem_of_mem_take hb))
  have h2 : (Bs.take i).length ≤ 100 := by rw [List.length_take]; omega
  have h3 := h _ (List.getElem_mem hi)
  have h4 := sum0_le a (fun i hi => formed_amt h3 hi) k hk
  have h5 := formed_len h3
  rw [sumF_add]
  omega

theorem sumF_next (f : AccT → Int) (l : List PostT) (k : Nat) (a : AccT) : sumF f l (k + 1) a = if pk l k = a.1 ∧ pn l k = a.2 then sumF f l k a + pa l k else sumF f l k a := by
  show (sumF f l k a + if a = (pk l k, pn l k) then pa l k else 0) = _
  by_cases e : pk l k = a.1 ∧ pn l k = a.2
  · have h : a = (pk l k, pn l k) := Prod.ext e.1.symm e.2.symm
    rw [if_pos e, if_pos h]
  · have h : ¬ a = (pk l k, pn l k) := fun h => e ⟨(congrArg Prod.fst h).symm, (congrArg Prod.snd h).symm⟩
    rw [if_neg e, if_neg h, Int.add_zero]

theorem bal_take {Bs : List BookT} {i : Nat} (hi : i < Bs.length) : balS (Bs.take (i + 1)) = sumF (balS (Bs.take i)) (Bs[i]).2 (Bs[i]).2.length := by
  rw [List.take_succ_eq_append_getElem hi, balS_snoc]

set_option maxRecDepth 10000 in
set_option maxHeartbeats 1600000 in
theorem posted_any (ra : Option Addr) (n c : Nat) (Bs : List BookT) (k : Int) (t : Name) (w : World) (hB : Books w ra n Bs) (hl : Bs.length ≤ 100) (hf : ∀ b ∈ Bs, formedS b = true) :
    Calls Try.prog 23 #[.slice ra n c, .agg #[.int .i64 k, .string (bs t)]] w fun e w' => e = .returned (.int .i64 (balS Bs (k, t))) ∧ Below w.heap.size w w' := by
  obtain ⟨w1, hw1⟩ : ∃ w1, w1 = w.alloc (.cells #[.int .i64 k, .string (bs t)] 39) := ⟨_, rfl⟩
  have hb := Joins.below_alloc1 w (.cells #[.int .i64 k, .string (bs t)] 39)
  have hn := World.alloc_heap_new w (.cells #[.int .i64 k, .string (bs t)] 39)
  rw [← hw1] at hb hn
  have HX : Hid (Boxed2 w1 w.heap.size (.int .i64 k) (.string (bs t)) 39) := hn
  have HB := Lib.hid (hB.below hb)
  have HW := Lib.hid hb
  have hlen := hB.len
  have HF := Lib.hid hf
  clear hb hn hB hf
  go_enter Try.func23, Try.ntmps23
  go_upto_region 1 with fail
  rw [← hw1]
  clear hw1
  go_wp2_with fail
  go_loopw [5, 6, 7] (fun v5 v6 _ wr => ∃ (i : Nat), v5 = .int .i64 (balS (Bs.take i) (k, t)) ∧ v6 = .int .i64 i ∧ i ≤ n ∧ Hid (Below w1.heap.size w1 wr)) (fun _ v6 _ _ => n - (intOf v6).toNat)
  case atStart => exact ⟨0, rfl, rfl, Nat.zero_le _, Below.refl _ _⟩
  case round =>
    obtain ⟨i, rfl, rfl, hi, HR⟩ := hrel
    by_cases hlt : i < n
    · have hib : i < Bs.length := by omega
      go_wp2_with fail
      obtain ⟨wo, rfl⟩ : ∃ wo : World, wo = wr := ⟨wr, rfl⟩
      have hpl : (Bs[i]).2.length ≤ 20 := (formed_len (HF.out _ (List.getElem_mem hib))).2
      go_loopw [5, 7] (fun v5 v7 wr => ∃ (j : Nat), v5 = .int .i64 (sumF (balS (Bs.take i)) (Bs[i]).2 j (k, t)) ∧ v7 = .int .i64 j ∧ j ≤ (Bs[i]).2.length ∧ Hid (Below w1.heap.size w1 wr)) (fun _ v7 _ => (Bs[i]).2.length - (intOf v7).toNat)
      case atStart => exact ⟨0, rfl, rfl, Nat.zero_le _, HR.out⟩
      case round =>
        obtain ⟨j, rfl, rfl, hj, HR2⟩ := hrel
        obtain ⟨b, o, pb, pc, pd, rfl, c0, c1, hp⟩ := (HB.out.below HR2.out).at i hlt hib
        have hpn := hp.1
        subst hpn
        have hx := HX.out.step HR2.out
        have x0 := hx.c0
        have x1 := hx.c1
        by_cases hjl : j < (Bs[i]).2.length
        · obtain ⟨b2, o2, rfl, p0, p1, p2⟩ := Posts.at hp j hjl
          obtain ⟨s, hs⟩ : ∃ s, s = sumF (balS (Bs.take i)) (Bs[i]).2 j (k, t) := ⟨_, rfl⟩
          have hs0 := way_le HF.out hl (k, t) i j hib (by omega)
          have HN := Lib.hid (sumF_next (balS (Bs.take i)) (Bs[i]).2 j (k, t))
          have hq0 := formed_amt (HF.out _ (List.getElem_mem hib)) hjl
          rw [← hs] at hs0 HN ⊢
          generalize pa (Bs[i]).2 j = q at *
          have HQ : Hid (wrap64 (s + q) = s + q) := wrap64_in _ (by omega)
          clear hs hq0 hs0 hx hp
          by_cases h1 : pk (Bs[i]).2 j = k
          · by_cases h2 : (bs (pn (Bs[i]).2 j)).toList = (bs t).toList
            · have h3 : pn (Bs[i]).2 j = t := by rw [bs_toList, bs_toList] at h2; exact h2
              have HS : Hid (sumF (balS (Bs.take i)) (Bs[i]).2 (j + 1) (k, t) = s + q) := by
                show _ = _
                rw [HN.out, if_pos ⟨h1, h3⟩]
              clear h3 HN
              go_upto_region 8 with fail
              go_region
              go_wp2_with fail
              go_roundw
              case rel => exact ⟨j + 1, by rw [HS.out]; exact congrArg (Value.int .i64) HQ.out, by go_num, by omega, HR2.out.drew⟩
              case measure => simp [intOf]; omega
            · have h3 : pn (Bs[i]).2 j ≠ t := fun e => h2 (by rw [e])
              have HS : Hid (sumF (balS (Bs.take i)) (Bs[i]).2 (j + 1) (k, t) = s) := by
                show _ = _
                rw [HN.out, if_neg (fun e => h3 e.2)]
              clear h3 HN
              go_upto_region 8 with fail
              go_region
              go_wp2_with fail
              go_roundw
              case rel => exact ⟨j + 1, by rw [HS.out], by go_num, by omega, HR2.out.drew⟩
              case measure => simp [intOf]; omega
          · have HS : Hid (sumF (balS (Bs.take i)) (Bs[i]).2 (j + 1) (k, t) = s) := by
              show _ = _
              rw [HN.out, if_neg (fun e => h1 e.1)]
            clear HN
            go_upto_region 8 with fail
            go_region
            go_wp2_with fail
            go_roundw
            case rel => exact ⟨j + 1, by rw [HS.out], by go_num, by omega, HR2.out.drew⟩
            case measure => simp [intOf]; omega
        · have hj' : j = (Bs[i]).2.length := by omega
          have HS := Lib.hid (bal_take hib)
          subst hj'
          go_wp2_with fail
          go_roundw
          case rel => exact ⟨i + 1, by rw [HS.out], by go_num, by omega, HR2⟩
          case measure => simp [intOf]; omega
    · have hi' : i = n := by omega
      subst hi'
      have HS : Hid (Bs.take i = Bs) := List.take_of_length_le (by omega)
      go_wp2_with fail
      go_ret
      exact ⟨by first | rfl | (rw [HS.out]; rfl), HW.out.trans (HR.out.mono HW.out.size)⟩
end Go.Proofs.Ytafhdpalobalkaa
