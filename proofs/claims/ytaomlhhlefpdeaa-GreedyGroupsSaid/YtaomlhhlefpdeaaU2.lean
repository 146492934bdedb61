/- Greedy's packing, plain: when all groups have the same value, the packing without the last group is the packing's beginning. -/
import Derived.Test.YtaomlhhlefpdeaaU
namespace Go.Proofs.Ytaomlhhlefpdeaa
open Go.RowKit

theorem gv_append (S : List (Int × Int)) (z : Int × Int) (k : Nat) (h : k < S.length) : gv (S ++ [z]) k = gv S k := by
  unfold gv; simp [List.getD, List.getElem?_append_left h]

theorem gs_append (S : List (Int × Int)) (z : Int × Int) (k : Nat) (h : k < S.length) : gs (S ++ [z]) k = gs S k := by
  unfold gs; simp [List.getD, List.getElem?_append_left h]

theorem seatStep_ext (single : Bool) (R : List Int) (G H : List (Int × Int)) (z : Int × Int) (st : PackSt) (x : Int) (hx : x.toNat < st.spots.length) (hs : gs G x.toNat = gs H x.toNat) (hv : gv G x.toNat = gv H x.toNat) :
    seatStep single R G ⟨st.left, st.spots ++ [z], st.value⟩ x = ⟨(seatStep single R H st x).left, (seatStep single R H st x).spots ++ [z], (seatStep single R H st x).value⟩ := by
  unfold seatStep
  rw [hs, hv]
  dsimp only
  rw [gv_append _ _ _ hx]
  split
  · dsimp only; rw [List.set_append_left _ _ hx]
  · dsimp only; rw [List.set_append_left _ _ hx]

theorem fold_ext (single : Bool) (R : List Int) (G H : List (Int × Int)) (z : Int × Int) : ∀ (O : List Int) (st : PackSt), (∀ x ∈ O, x.toNat < st.spots.length ∧ gs G x.toNat = gs H x.toNat ∧ gv G x.toNat = gv H x.toNat) →
    O.foldl (seatStep single R G) ⟨st.left, st.spots ++ [z], st.value⟩ = ⟨(O.foldl (seatStep single R H) st).left, (O.foldl (seatStep single R H) st).spots ++ [z], (O.foldl (seatStep single R H) st).value⟩ := by
  intro O
  induction O with
  | nil => intro st _; rfl
  | cons x O ih =>
    intro st h
    have hx := h x (by simp)
    have hl : (seatStep single R H st x).spots.length = st.spots.length := by unfold seatStep; split <;> simp
    rw [List.foldl_cons, List.foldl_cons, seatStep_ext single R G H z st x hx.1 hx.2.1 hx.2.2]
    exact ih _ fun y hy => by rw [hl]; exact h y (by simp [hy])

theorem rankedL_same (G : List (Int × Int)) (v : Int) (hv : ∀ k, k < G.length → gv G k = v) : rankedL G = idx G.length := by
  refine (Ranked.eq ⟨List.Perm.refl _, ?_⟩).symm
  refine List.Pairwise.imp_of_mem ?_ (idx_lt G.length)
  intro a b ha hb hab
  have ha := (mem_idx _ _).mp ha
  have hb := (mem_idx _ _).mp hb
  exact Or.inr ⟨by rw [hv _ (by omega), hv _ (by omega)], hab⟩

theorem better_self (a : PackSt) : better a a = a := by unfold better; split <;> rfl

theorem solveS_same (single : Bool) (R : List Int) (G : List (Int × Int)) (v : Int) (hv : ∀ k, k < G.length → gv G k = v) : solveS single R G = seatS single R G (idx G.length) := by
  rw [solveS, rankedL_same G v hv, better_self]

theorem gs_take (G : List (Int × Int)) (n k : Nat) (h : k < n) : gs (G.take n) k = gs G k := by
  unfold gs; simp [List.getD, List.getElem?_take, h]

theorem gv_take (G : List (Int × Int)) (n k : Nat) (h : k < n) : gv (G.take n) k = gv G k := by
  unfold gv; simp [List.getD, List.getElem?_take, h]

/-- Without the last group the others sit where they sat, and the value is less by what the last one brought. -/
theorem solveS_groups (single : Bool) (R : List Int) (G : List (Int × Int)) (v : Int) (n : Nat) (hn : G.length = n + 1) (hv : ∀ k, k < G.length → gv G k = v) :
    (∀ k, k < n → gs (solveS single R G).spots k = gs (solveS single R (G.take n)).spots k ∧ gv (solveS single R G).spots k = gv (solveS single R (G.take n)).spots k) ∧
    (solveS single R G).value = (solveS single R (G.take n)).value + (if 0 ≤ gs (solveS single R G).spots n then gs G n * v else 0) := by
  have hl : (G.take n).length = n := by rw [List.length_take]; omega
  rw [solveS_same single R G v hv, solveS_same single R (G.take n) v (fun k hk => by rw [gv_take _ _ _ (by omega)]; exact hv k (by omega)), hl, hn]
  have e : idx (n + 1) = idx n ++ [(n : Int)] := by simp [idx, List.range_succ]
  have hT := seatS_length single R (G.take n) (idx n)
  rw [hl] at hT
  obtain ⟨T, hTe⟩ : ∃ T, seatS single R (G.take n) (idx n) = T := ⟨_, rfl⟩
  have hS : seatS single R G (idx (n + 1)) = seatStep single R G ⟨T.left, T.spots ++ [(0, 0)], T.value⟩ n := by
    rw [seatS, e, List.foldl_append, hn, List.replicate_succ']
    have := fold_ext single R G (G.take n) (0, 0) (idx n) ⟨R, List.replicate n (0, 0), 0⟩ (fun x hx => by
      have := (mem_idx _ _).mp hx
      refine ⟨by simp; omega, ?_, ?_⟩
      · rw [gs_take _ _ _ (by omega)]
      · rw [gv_take _ _ _ (by omega)])
    rw [this]
    have hTe2 := hTe
    rw [seatS, hl] at hTe2
    rw [hTe2]; rfl
  rw [hS, hTe]
  rw [hTe] at hT
  have hvn := hv n (by omega)
  have hnl : n < (T.spots ++ [(0, 0)] : List (Int × Int)).length := by simp; omega
  unfold seatStep
  rw [Int.toNat_natCast]
  dsimp only
  split
  · rename_i hp
    refine ⟨fun k hk => ?_, ?_⟩
    · dsimp only
      rw [gs_set _ _ _ _ hnl, gv_set _ _ _ _ hnl, if_neg (by omega), if_neg (by omega), gs_append _ _ _ (by omega), gv_append _ _ _ (by omega)]
      exact ⟨rfl, rfl⟩
    · dsimp only
      rw [gs_set _ _ _ _ hnl, if_pos rfl, if_pos hp, hvn]
  · rename_i hp
    refine ⟨fun k hk => ?_, ?_⟩
    · dsimp only
      rw [gs_set _ _ _ _ hnl, gv_set _ _ _ _ hnl, if_neg (by omega), if_neg (by omega), gs_append _ _ _ (by omega), gv_append _ _ _ (by omega)]
      exact ⟨rfl, rfl⟩
    · dsimp only
      rw [gs_set _ _ _ _ hnl, if_pos rfl, if_neg hp]; omega

theorem validS_take {R : List Int} {G : List (Int × Int)} (n : Nat) (h : validS R G = true) : validS R (G.take n) = true := by
  unfold validS at h ⊢
  simp only [Bool.and_eq_true, decide_eq_true_eq] at h ⊢
  refine ⟨h.1, by rw [List.length_take]; omega, ?_⟩
  have h2 := h.2.2
  unfold groupsOk at h2 ⊢
  simp only [Bool.not_eq_true', List.any_eq_false] at h2 ⊢
  exact fun g hg => h2 g (List.mem_of_mem_take hg)
end Go.Proofs.Ytaomlhhlefpdeaa
