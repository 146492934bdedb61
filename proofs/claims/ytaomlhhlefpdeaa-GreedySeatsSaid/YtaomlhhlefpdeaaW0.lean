/- Pairs of integers as cells in a row: what an append of a slice of pairs lays. -/
import Derived.Test.YtaomlhhlefpdeaaF
namespace Go.Proofs.Ytaomlhhlefpdeaa
open Go.RowKit

def pcells : List (Int × Int) → List Value
  | [] => []
  | g :: G => .int .i64 g.1 :: .int .i64 g.2 :: pcells G

theorem pcells_length (G : List (Int × Int)) : (pcells G).length = G.length * 2 := by
  induction G with
  | nil => rfl
  | cons g G ih => rw [pcells, List.length_cons, List.length_cons, ih, List.length_cons]; omega

theorem pcells_one (G : List (Int × Int)) : ∀ u ∈ pcells G, u.oneCell' = true := by
  induction G with
  | nil => intro u hu; simp [pcells] at hu
  | cons g G ih =>
    intro u hu
    rw [pcells] at hu
    rcases List.mem_cons.mp hu with rfl | hu
    · rfl
    · rcases List.mem_cons.mp hu with rfl | hu
      · rfl
      · exact ih u hu

theorem gs_cons (g : Int × Int) (G : List (Int × Int)) (k : Nat) : gs (g :: G) (k + 1) = gs G k := by unfold gs; simp [List.getD]
theorem gv_cons (g : Int × Int) (G : List (Int × Int)) (k : Nat) : gv (g :: G) (k + 1) = gv G k := by unfold gv; simp [List.getD]

theorem pcells_get (G : List (Int × Int)) : ∀ k, k < G.length → (pcells G)[k * 2]? = some (.int .i64 (gs G k)) ∧ (pcells G)[k * 2 + 1]? = some (.int .i64 (gv G k)) := by
  induction G with
  | nil => intro k hk; simp at hk
  | cons g G ih =>
    intro k hk
    cases k with
    | zero => rw [pcells]; exact ⟨rfl, rfl⟩
    | succ k =>
      have := ih k (by simpa using hk)
      rw [pcells, gs_cons, gv_cons, show (k + 1) * 2 = k * 2 + 1 + 1 from by omega, List.getElem?_cons_succ, List.getElem?_cons_succ, List.getElem?_cons_succ, List.getElem?_cons_succ]
      exact this

theorem pcells_cells {w : World} {ad : Addr} {n : Nat} {G : List (Int × Int)} (h : Pairs w (some ad) n G) : ∀ (j : Nat) (u : Value), (pcells G)[j]? = some u → w.cell? (ad.add j) = some u := by
  intro j u hj
  have hl := pcells_length G
  have hjn : j < n * 2 := by
    rcases Nat.lt_or_ge j (pcells G).length with a | a
    · rw [hl, h.1] at a; exact a
    · rw [List.getElem?_eq_none a] at hj; simp at hj
  obtain ⟨b, o, e, c1, c2⟩ := h.2 (j / 2) (by omega)
  simp only [Option.some.injEq] at e
  subst e
  obtain ⟨g1, g2⟩ := pcells_get G (j / 2) (by rw [h.1]; omega)
  have e2 : (⟨b, o, none⟩ : Addr).add j = ⟨b, o + j, none⟩ := by unfold Addr.add; split <;> simp_all
  rw [e2]
  rcases Nat.mod_two_eq_zero_or_one j with a | a
  · rw [show j / 2 * 2 = j from by omega] at g1 c1
    rw [g1] at hj; rw [c1]; exact hj
  · rw [show j / 2 * 2 + 1 = j from by omega] at g2
    rw [show o + j / 2 * 2 + 1 = o + j from by omega] at c2
    rw [g2] at hj; rw [c2]; exact hj

theorem PairRow.of_row {w : World} {B n : Nat} {T : TypeId} {v : Value} {G : List (Int × Int)} (hn : 0 < n) (h : w.ownsRow B T 2 v n (pcells G)) : ∃ g c, v = .slice (some ⟨g, 0, none⟩) n c ∧ n ≤ c ∧ B ≤ g ∧ G.length = n ∧ PairRow w g T G := by
  have hl : G.length = n := by have := h.1; rw [pcells_length] at this; omega
  rcases h.2 with ⟨_, h0⟩ | ⟨g, cap, cur, rfl, hb, hh, h1, _, h3, h4⟩
  · omega
  · refine ⟨g, cap, rfl, h1, hb, hl, cur, hh, by omega, fun k hk => ?_⟩
    obtain ⟨g1, g2⟩ := pcells_get G k hk
    rw [← h4] at g1 g2
    rw [List.getElem?_take_of_lt (by omega), Array.getElem?_toList] at g1 g2
    exact ⟨g1, g2⟩
end Go.Proofs.Ytaomlhhlefpdeaa
