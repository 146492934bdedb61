/- ledger: the given bookings in memory; foyerref27.Few: the walk. -/
import Derived.Test.YtafhdpalobalkaaLB8
namespace Go.Proofs.Ytafhdpalobalkaa
open Go.RowKit Go.IntWalk

/-- Bookings as they came in. -/
def Books (w : World) (ra : Option Addr) (n : Nat) (Bs : List BookT) : Prop :=
  ∃ rs : List RawT, Recs RawE w ra n rs ∧ rs.length = Bs.length ∧ ∀ i (h1 : i < rs.length) (h2 : i < Bs.length), rs[i].1 = Bs[i].1 ∧ Posts w rs[i].2.1 rs[i].2.2.1 Bs[i].2

theorem Books.len {w : World} {ra : Option Addr} {n : Nat} {Bs : List BookT} (h : Books w ra n Bs) : Bs.length = n := let ⟨_, h1, h2, _⟩ := h; h2.symm.trans h1.1

theorem Books.below {w w' : World} {ra : Option Addr} {n : Nat} {Bs : List BookT} (h : Books w ra n Bs) (hb : Below w.heap.size w w') : Books w' ra n Bs :=
  let ⟨rs, h1, h2, h3⟩ := h
  ⟨rs, h1.below hb, h2, fun i a b => ⟨(h3 i a b).1, (h3 i a b).2.below hb⟩⟩

theorem Books.at {w : World} {ra : Option Addr} {n : Nat} {Bs : List BookT} (h : Books w ra n Bs) (i : Nat) (hi : i < n) (hb : i < Bs.length) :
    ∃ b o pa pn pc, ra = some ⟨b, o, none⟩ ∧ w.cell? ⟨b, o + i * 2, none⟩ = some (.int .i64 Bs[i].1) ∧ w.cell? ⟨b, o + i * 2 + 1, none⟩ = some (.slice pa pn pc) ∧ Posts w pa pn Bs[i].2 := by
  obtain ⟨rs, h1, h2, h3⟩ := h
  obtain ⟨b, o, e, c⟩ := h1.2 i hi
  have hl : i < rs.length := by omega
  have c0 := c 0 (by omega)
  have c1 := c 1 (by omega)
  rw [rc_eq _ _ hl] at c0 c1
  obtain ⟨k1, k2⟩ := h3 i hl hb
  exact ⟨b, o, rs[i].2.1, rs[i].2.2.1, rs[i].2.2.2, e, by rw [← k1]; exact c0, c1, k2⟩

def fewS (Bs : List BookT) (N : Nat) : Bool := decide (Bs.length ≤ N) && Bs.all fun b => decide (b.2.length ≤ 25)

theorem few_no {Bs : List BookT} {N i : Nat} (hi : i < Bs.length) (h : 25 < (Bs[i]).2.length) : fewS Bs N = false := by
  cases hh : fewS Bs N
  · rfl
  · unfold fewS at hh
    rw [Bool.and_eq_true, List.all_eq_true] at hh
    have := hh.2 _ (List.getElem_mem hi)
    simp at this
    omega

theorem few_end {Bs : List BookT} {N : Nat} (h : Bs.length ≤ N → ∀ i (hi : i < Bs.length), (Bs[i]).2.length ≤ 25) : fewS Bs N = decide (Bs.length ≤ N) := by
  unfold fewS
  by_cases e : Bs.length ≤ N
  · rw [show (Bs.all fun b => decide (b.2.length ≤ 25)) = true from by
      rw [List.all_eq_true]
      intro b hb
      obtain ⟨i, hi, rfl⟩ := List.getElem_of_mem hb
      simpa using h e i hi]
    simp
  · simp [e]

set_option maxRecDepth 10000 in
set_option maxHeartbeats 1600000 in
theorem few_any (ra : Option Addr) (n c N : Nat) (Bs : List BookT) (w : World) (hB : Books w ra n Bs) (hn : n ≤ 9223372036854775807) (hN : N ≤ 1000000) :
    Calls Try.prog 9 #[.slice ra n c, .int .i64 N] w fun e w' => e = .returned (.bool (fewS Bs N)) ∧ w = w' := by
  have HB := Lib.hid hB
  have hlen := hB.len
  clear hB
  go_enter Try.func9, Try.ntmps9
  go_wp2_with fail
  go_loopw [5] (fun v5 wr => ∃ i : Nat, v5 = .int .i64 i ∧ i ≤ n ∧ i ≤ N ∧ w = wr ∧ Hid (∀ j (hj : j < Bs.length), j < i → (Bs[j]).2.length ≤ 25)) (fun v5 _ => n - (intOf v5).toNat)
  case atStart => exact ⟨0, rfl, Nat.zero_le _, Nat.zero_le _, rfl, fun j _ hj => by omega⟩
  case round =>
    obtain ⟨i, rfl, hi, hiN, rfl, HW⟩ := hrel
    by_cases hlt : i < n
    · by_cases hlt2 : i < N
      · obtain ⟨b, o, pa, pn, pc, rfl, c0, c1, hp⟩ := HB.out.at i hlt (by omega)
        have hpl := hp.1
        have HPL := Lib.hid hp.1
        clear hp hpl
        by_cases h25 : 25 < pn
        · have HF := Lib.hid (few_no (N := N) (Bs := Bs) (i := i) (by omega) (by rw [HPL.out]; exact h25))
          go_wp2_with fail
          go_ret
          exact ⟨by rw [HF.out]; rfl, rfl⟩
        · go_wp2_with fail
          go_roundw
          case rel => exact ⟨i + 1, by go_num, by omega, by omega, trivial, fun j hj hji => by
            by_cases e : j = i
            · subst e; rw [HPL.out]; omega
            · exact HW.out j hj (by omega)⟩
          case measure => simp [intOf]; omega
      · have hi' : i = N := by omega
        subst hi'
        have HF := Lib.hid (few_end (Bs := Bs) (N := i) (fun h j hj => by omega))
        go_wp2_with fail
        go_ret
        exact ⟨by rw [HF.out]; simp; omega, rfl⟩
    · have hi' : i = n := by omega
      subst hi'
      have HF := Lib.hid (few_end (Bs := Bs) (N := N) (fun h j hj => HW.out j hj (by omega)))
      go_wp2_with fail
      go_ret
      exact ⟨by rw [HF.out]; simp; omega, rfl⟩
end Go.Proofs.Ytafhdpalobalkaa
