/- A row in order, gone through; and the rows behind a sort. -/
import Derived.Test.YthabgljdndbphaaGreatDoorQPKL37

set_option linter.unusedVariables false
set_option linter.unusedSimpArgs false
namespace Go.Proofs.YthabgljdndbphaaGreatDoor
open Go.RowKit

theorem owns_pairs {w : World} {B n : Nat} {v : Value} {L : List (Int × Int)} (h : w.ownsRow B 46 2 v n (pcells L)) : ∃ ao cap, v = .slice ao n cap ∧ Pairs w ao n L := by
 have hl : L.length = n := by
  have := h.1
  rw [pcells_length] at this; omega
 rcases h.2 with ⟨rfl, rfl⟩ | ⟨g, cap, cur, rfl, hBg, hg, hnc, hcm, hcs, htake⟩
 ·
  exact ⟨none, 0, rfl, hl, fun k hk => absurd hk (by omega)⟩
 ·
  refine ⟨_, cap, rfl, hl, fun k hk => ⟨g, 0, rfl, ?_, ?_⟩⟩
  all_goals
   obtain ⟨g1, g2⟩ := pcells_get L k (by omega)
   simp only [World.cell?, hg, Nat.zero_add]
  ·
   rw [← htake, List.getElem?_take, if_pos (by omega), Array.getElem?_toList] at g1
   exact g1
  ·
   rw [← htake, List.getElem?_take, if_pos (by omega), Array.getElem?_toList] at g2
   exact g2

/-- A row is put in another order, in place. -/
theorem Rows2.sorted {w w1 : World} {B g : Nat} {Q : List (List (Int × Int))} (h : Rows2 w B g Q) (r : Nat) (hr : r < Q.length) (v : Value) (L : List (Int × Int)) (hv : w.cell? ⟨g, r, none⟩ = some v)
  (hl : L.length = (qx Q r).length) (hown : w1.ownsRow B 46 2 v (qx Q r).length (pcells L)) (hgrow : w.grownBy w1 v.ownBlock) : Rows2 w1 B g (Q.set r L) := by
 obtain ⟨h0, vs, h1, h2, h3⟩ := h
 have hvr : vs[r]? = some v := by simp only [World.cell?, h1] at hv; exact hv
 have hg1 : w1.heap[g]? = some (.cells vs 29 (0, 0)) := by
  rw [hgrow.block g (lt_of_block h1) (fun e => ?_)]
  ·
   exact h1
  ·
   obtain ⟨u, e1, ho⟩ := h2 r hr
   rw [hvr] at e1
   obtain rfl : v = u := by simpa using e1
   have := (ho.lt g e.symm).1
   omega
 refine ⟨h0, vs, hg1, fun s hs => ?_, fun s t u u' hs ht hst e1 e2 => ?_⟩
 ·
  rw [List.length_set] at hs
  by_cases hrs : r = s
  ·
   subst hrs
   rw [qx_set _ _ _ _ hr, if_pos rfl]
   exact ⟨v, hvr, by rw [hl]; exact hown⟩
  ·
   rw [qx_set _ _ _ _ hr, if_neg hrs]
   obtain ⟨u, e, ho⟩ := h2 s hs
   exact ⟨u, e, ho.kept hgrow (h3 s r u v hs hr (fun e => hrs e.symm) e hvr)⟩
 ·
  rw [List.length_set] at hs ht
  exact h3 s t u u' hs ht hst e1 e2

theorem chain_append (single : Bool) (B : List (Int × Int)) : ∀ (A : List (Int × Int)) (a : Int), chain single a (A ++ B) = (chain single a A).bind fun e => chain single e B := by
 intro A
 induction A with
 | nil => intro a; rfl
 | cons x A ih =>
  intro a
  rw [List.cons_append, chain, chain]
  split
  ·
   rfl
  ·
   exact ih _

theorem chain_one (single : Bool) (e : Int) (x : Int × Int) : chain single e [x] = if x.2 < e ∨ (single = true ∧ x.2 = e + 1) then none else some (x.2 + x.1) := by
 rw [chain, chain]

theorem take_pair (L : List (Int × Int)) (i : Nat) (hi : i < L.length) : L.take (i + 1) = L.take i ++ [(gs L i, gv L i)] := by
 have e : L[i] = (gs L i, gv L i) := by unfold gs gv; simp [List.getD, hi]
 rw [← e, List.take_append_getElem]

theorem pair_mem (L : List (Int × Int)) (i : Nat) (hi : i < L.length) : (gs L i, gv L i) ∈ L := by
 have e : L[i] = (gs L i, gv L i) := by unfold gs gv; simp [List.getD, hi]
 rw [← e]
 exact List.getElem_mem hi

theorem chain_none (single : Bool) (L : List (Int × Int)) (i : Nat) (h : chain single 0 (L.take i) = none) : chain single 0 L = none := by
 rw [← List.take_append_drop i L, chain_append, h]; rfl

/-- One more of the row: where it ends now. -/
theorem chain_step (single : Bool) (L : List (Int × Int)) (i : Nat) (hi : i < L.length) (a : Int) (h : chain single 0 (L.take i) = some a) :
  chain single 0 (L.take (i + 1)) = if gv L i < a ∨ (single = true ∧ gv L i = a + 1) then none else some (gv L i + gs L i) := by
 rw [take_pair L i hi, chain_append, h, Option.bind_some, chain_one]

theorem rowOk_none {single : Bool} {n : Int} {L : List (Int × Int)} (h : chain single 0 L = none) : rowOk single n L = false := by
 unfold rowOk; rw [h]

theorem rowOk_some {single : Bool} {n a : Int} {L : List (Int × Int)} (h : chain single 0 L = some a) : rowOk single n L = !(single && (decide (0 < a) && decide (a = n - 1))) := by
 unfold rowOk; rw [h]
end Go.Proofs.YthabgljdndbphaaGreatDoor
