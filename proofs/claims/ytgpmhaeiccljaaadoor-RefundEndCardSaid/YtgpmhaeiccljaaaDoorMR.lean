/- money.Split, behind the first loop: the sort, what it leaves, and the numbers. -/
import Derived.Test.YtgpmhaeiccljaaaDoorME
import Derived.Test.YtgpmhaeiccljaaaDoorMQ
import Derived.Test.YtgpmhaeiccljaaaDoorMX
import Derived.Deep.OwnRows
namespace Go.Proofs.YtgpmhaeiccljaaaDoor
open Go.RowKit Go.IntWalk

/-- The numbers from 0 on. -/
def idx (n : Nat) : List Int := (List.range n).map fun (k : Nat) => (k : Int)

theorem idx_length (n : Nat) : (idx n).length = n := by simp [idx]

theorem ix_idx (n k : Nat) (h : k < n) : ix (idx n) k = k := by
  simp [ix, idx, List.getD_eq_getElem?_getD, h]

theorem mem_idx (n : Nat) (x : Int) : x ∈ idx n ↔ 0 ≤ x ∧ x < n := by
  simp only [idx, List.mem_map, List.mem_range]
  exact ⟨fun ⟨k, h, e⟩ => by omega, fun h => ⟨x.toNat, by omega, by omega⟩⟩

theorem idx_lt (n : Nat) : (idx n).Pairwise (· < ·) := by
  rw [idx, List.pairwise_map]
  exact List.Pairwise.imp (fun h => by omega) (List.pairwise_lt_range (n := n))

theorem idx_nat (n : Nat) : (idx n).map Int.toNat = List.range n := by
  unfold idx
  rw [List.map_map]
  conv => rhs; rw [← List.map_id (List.range n)]
  apply List.map_congr_left
  intro i _
  simp

theorem IntRow.ints {w : World} {g : Nat} {T : TypeId} {D : List Int} (h : IntRow w g T D) : Ints w (some ⟨g, 0, none⟩) D.length D :=
  ⟨rfl, fun k hk => ⟨g, 0, rfl, by rw [Nat.zero_add]; exact h.cell k hk⟩⟩

/-- The world behind the first loop, with the box of rest. -/
structure BoxR (wr w : World) (h : Nat) (n : Int) (ra : Option Addr) (k c : Nat) (al : Int) (D O : List Int) : Prop where
  below : Below w.heap.size w wr
  caps : Caps wr (h + 3) h (h + 1) (h + 2) (signS n) n ra k c al
  out : IntRow wr (h + 4) 3 D
  order : IntRow wr (h + 5) 3 O
  rest : wr.cell? ⟨h + 6, 0, none⟩ = some (restF (h + 3) h (h + 1) (h + 2))

theorem Caps.grown {w w' : World} {s n v a g : Nat} {sg nv : Int} {ra : Option Addr} {k c : Nat} {al : Int} (h : Caps w s n v a sg nv ra k c al) (hg : w.grownBy w' (some g)) (h1 : s ≠ g) (h2 : n ≠ g) (h3 : v ≠ g) (h4 : a ≠ g) : Caps w' s n v a sg nv ra k c al :=
  ⟨hg.cell h.sign (by simp; exact h1), hg.cell h.num (by simp; exact h2), hg.cell h.ws (by simp; exact h3), hg.cell h.all (by simp; exact h4)⟩

theorem IntRow.grown {w w' : World} {g g' : Nat} {T : TypeId} {D : List Int} (h : IntRow w g T D) (hg : w.grownBy w' (some g')) (hne : g ≠ g') : IntRow w' g T D := by
  obtain ⟨arr, e, r⟩ := h
  exact ⟨arr, (hg.block g (lt_of_block e) (by simp; exact hne)).trans e, r⟩

theorem enter_more' (args : Array Value) (w : World) : (callFunc 53 args).run Tryd.prog w = .ok (.enter 53 args) w := by
  kernel_rfl

/-- What the sort leaves. -/
def SortedPost (w : World) (n : Int) (ra : Option Addr) (k c : Nat) (W D : List Int) (e : Ending) (w' : World) : Prop :=
  e = .returned (.tuple #[]) ∧ ∃ O : List Nat, O.Perm (List.range W.length) ∧ O.Pairwise (fun a b => befS (signS n * n) W a b = true) ∧ BoxR w' w w.heap.size n ra k c (allW W) D (O.map fun (x : Nat) => (x : Int))

theorem split_sorts {w w6 : World} {n : Int} {ra : Option Addr} {k c : Nat} {W D : List Int} (hW : Ints w ra k W) (hN : Nums (signS n * n) W) (hB : BoxR w6 w w.heap.size n ra k c (allW W) D (idx k)) :
    Calls Tryd.prog 52 #[.slice (some ⟨w.heap.size + 5, 0, none⟩) k k, .func (.func 53) #[] #[.pointer (some ⟨w.heap.size + 6, 0, none⟩)]] w6 (SortedPost w n ra k c W D) := by
  have hk : W.length = k := hW.1
  have hcmp : CmpAt 53 #[.pointer (some ⟨w.heap.size + 6, 0, none⟩)] (fun x y => restS (signS n * n) W y.toNat - restS (signS n * n) W x.toNat) (fun x => 0 ≤ x ∧ x < k) (w.heap.size + 5) w6 := by
    intro x y w' hx hy hg
    have hb2 : Below w.heap.size w w' := hB.below.grown hg hB.below.size (fun j hj => by simp at hj; omega)
    simpa using more_any (w.heap.size + 6) (w.heap.size + 3) w.heap.size (w.heap.size + 1) (w.heap.size + 2) (signS n) n (signS n * n) ra k c W x y w' (hg.cell hB.rest (by simp))
      (hB.caps.grown hg (by omega) (by omega) (by omega) (by omega)) (hW.below hb2) hN rfl hx hy
  refine (sortStable_any 53 #[.pointer (some ⟨w.heap.size + 6, 0, none⟩)] _ _ (precS (signS n * n) W) (w.heap.size + 5) 3 k k (idx k) w6 enter_more' hcmp ?_ (idx_length k).symm ?_ hB.order (fun x hx => (mem_idx k x).1 hx) ?_).mono ?_
  · intro x y z h1 h2
    unfold precS at *
    rw [bef_iff] at *
    omega
  · have := hN.len; omega
  · have hmem : ∀ u ∈ idx k, 0 ≤ u := fun u hu => ((mem_idx k u).1 hu).1
    refine List.Pairwise.imp_of_mem ?_ (idx_lt k)
    intro u v hu hv huv
    have := hmem u hu
    unfold Ok precS
    rw [bef_iff, bef_iff]
    dsimp only
    omega
  · rintro e w7 ⟨rfl, hg, O, hO, hp, hs⟩
    have hnn : ∀ x ∈ O, 0 ≤ x := fun x hx => ((mem_idx k x).1 (hp.mem_iff.mp hx)).1
    refine ⟨rfl, O.map Int.toNat, ?_, ?_, ?_⟩
    · rw [hk, ← idx_nat]
      exact hp.map _
    · rw [List.pairwise_map]
      exact hs
    · have e : (O.map Int.toNat).map (fun (x : Nat) => (x : Int)) = O := by
        rw [List.map_map]
        conv => rhs; rw [← List.map_id O]
        apply List.map_congr_left
        intro x hx
        have := hnn x hx
        show ((x.toNat : Nat) : Int) = x
        omega
      rw [e]
      exact ⟨hB.below.grown hg hB.below.size (fun j hj => by simp at hj; omega), hB.caps.grown hg (by omega) (by omega) (by omega) (by omega), hB.out.grown hg (by omega), hO, hg.cell hB.rest (by simp)⟩

theorem BoxR.put {wr w : World} {n : Int} {ra : Option Addr} {k c : Nat} {al : Int} {D O : List Int} {i : Nat} (h : BoxR wr w w.heap.size n ra k c al D O) (h1 : i < D.length) (x : Int) :
    BoxR (wr.setCell ⟨w.heap.size + 4, i, none⟩ (.int .i64 x)) w w.heap.size n ra k c al (D.set i x) O := by
  have hg := grown_setCell wr (w.heap.size + 4) i (.int .i64 x)
  exact ⟨h.below.setCell (by simp) _, h.caps.grown hg (by omega) (by omega) (by omega) (by omega), h.out.set i h1 x, h.order.grown hg (by omega), hg.cell h.rest (by simp)⟩

theorem BoxR.drewN {wr w : World} {h : Nat} {n : Int} {ra : Option Addr} {k c : Nat} {al : Int} {D O : List Int} (b : BoxR wr w h n ra k c al D O) (q : Nat) : BoxR (wr.drewN q) w h n ra k c al D O :=
  ⟨below_drewN b.below q, b.caps.drewN q, b.out.drewN q, b.order.drewN q, b.rest⟩

/-- What the third loop's round has: the parts, one more for those that are among the first. -/
def PartAt (N : Int) (W D : List Int) (p : Nat) : Prop := D.length = W.length ∧ ∀ i, i < W.length → ix D i = baseS N W i + if rankS N W i < p then 1 else 0

theorem part_step {N : Int} {W D : List Int} {O : List Nat} {p : Nat} (hp : O.Perm (List.range W.length)) (hs : O.Pairwise (fun a b => befS N W a b = true)) (h : PartAt N W D p) (hlt : p < O.length) :
    O[p] < W.length ∧ PartAt N W (D.set O[p] (ix D O[p] + 1)) (p + 1) := by
  have hm : O[p] < W.length := List.mem_range.mp (hp.mem_iff.mp (List.getElem_mem hlt))
  have hr := rank_at hp hs p hlt
  refine ⟨hm, by rw [List.length_set]; exact h.1, fun i hi => ?_⟩
  rw [ix_set _ _ _ _ (by rw [h.1]; exact hm)]
  by_cases e : O[p] = i
  · rw [if_pos e, h.2 _ hm, hr, e, ← e, hr, if_neg (by omega), if_pos (by omega)]; omega
  · rw [if_neg e, h.2 i hi]
    have : rankS N W i ≠ p := by
      intro hh
      rw [← hr] at hh
      exact e (rank_inj hi hm hh).symm
    congr 1
    by_cases h2 : rankS N W i < p
    · rw [if_pos h2, if_pos (by omega)]
    · rw [if_neg h2, if_neg (by omega)]

theorem nums_extra {N : Int} {W : List Int} (h : Nums N W) : 0 ≤ extraS N W ∧ extraS N W ≤ W.length := by
  have := extra_range (N := N) h.pos
  omega

theorem nums_base {N : Int} {W : List Int} (h : Nums N W) (i : Nat) (hi : i < W.length) : 0 ≤ baseS N W i ∧ baseS N W i ≤ 1000000000 := by
  have h1 := base_le h.lo h.pos i (ix_le_all W (fun j hj => (h.each j hj).1) i hi)
  have h2 := h.hi
  exact ⟨base_nonneg h.lo h.pos i (h.each i hi).1, by omega⟩

theorem part_done {N : Int} {W D : List Int} {p : Nat} (h : PartAt N W D p) (hp : extraS N W = p) : ∀ i, i < W.length → ix D i = partS N W i := by
  intro i hi
  rw [h.2 i hi]
  unfold partS
  rw [hp]
  congr 1
  by_cases h2 : rankS N W i < p
  · rw [if_pos h2, if_pos (by omega)]
  · rw [if_neg h2, if_neg (by omega)]

theorem nums_part {N : Int} {W : List Int} (h : Nums N W) (i : Nat) (hi : i < W.length) : 0 ≤ partS N W i ∧ partS N W i ≤ 1000000001 := by
  have := nums_base h i hi
  unfold partS
  split <;> omega

/-- What the last loop's round has. -/
def SignAt (n : Int) (W D : List Int) (p : Nat) : Prop := D.length = W.length ∧ ∀ i, i < W.length → ix D i = if i < p then signS n * partS (signS n * n) W i else partS (signS n * n) W i

theorem sign_step {n : Int} {W D : List Int} {p : Nat} (h : SignAt n W D p) (hp : p < W.length) : SignAt n W (D.set p (partS (signS n * n) W p * signS n)) (p + 1) := by
  refine ⟨by rw [List.length_set]; exact h.1, fun i hi => ?_⟩
  rw [ix_set _ _ _ _ (by rw [h.1]; exact hp)]
  by_cases e : p = i
  · subst e; rw [if_pos rfl, if_pos (by omega), Int.mul_comm]
  · rw [if_neg e, h.2 i hi]
    by_cases h2 : i < p
    · rw [if_pos h2, if_pos (by omega)]
    · rw [if_neg h2, if_neg (by omega)]

theorem sign_done {n : Int} {W D : List Int} (h : SignAt n W D W.length) : D = splitS n W := by
  apply list_ext_ix
  · rw [h.1, splitS_length]
  · intro i hi
    rw [h.1] at hi
    rw [h.2 i hi, if_pos hi, splitS_at n W i hi]

theorem sign_nonneg {n : Int} (h : 0 ≤ n) : signS n = 1 := by unfold signS; rw [if_neg (by omega)]

theorem sign_range (n : Int) : signS n = 1 ∨ signS n = -1 := by unfold signS; split <;> simp
end Go.Proofs.YtgpmhaeiccljaaaDoor
