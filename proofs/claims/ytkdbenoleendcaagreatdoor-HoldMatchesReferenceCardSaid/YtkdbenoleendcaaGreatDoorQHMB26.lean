/- maps.Keys, slices.Sorted at the map of holds: the Ids. -/
import Derived.Test.YtkdbenoleendcaaGreatDoorQHMB01
import Derived.Test.YtkdbenoleendcaaGreatDoorQHMB25

namespace Go.Proofs.YtkdbenoleendcaaGreatDoor
open Go.RowKit Go.IntWalk Go.Maps Go.WideMaps Go.Sort

theorem sortsH (m : Nat) : AnyZI.SortsIn Tryz.prog Tryz.sortedH_ren Fence.wide m :=
  ⟨fun blk off cap ss W hH hblk hsz => callsIn_wide.2 (Tryz.slices_Sort_int blk off cap ss W hH hblk hsz),
   fun p cap W => callsIn_wide.2 (Tryz.slices_Sort_int_none p cap W)⟩

def idsO (E : List OwnT) : List Int := E.map (·.1.1)

theorem keys_of (E : List OwnT) : intKeys (mapH E) = idsO E := by
  show (E.map entH).map _ = _
  rw [List.map_map]
  rfl

theorem sort_ids {E : List OwnT} (ha : Asc E) {ss : List Int} (hp : ss.Perm (idsO E)) : ss.mergeSort (fun x y => decide (x ≤ y)) = idsO E := by
  refine List.Perm.eq_of_pairwise (le := fun a b => a ≤ b) (fun a b _ _ h1 h2 => by omega) ?_ ?_ ((List.mergeSort_perm ss _).trans hp)
  · have := List.pairwise_mergeSort (le := fun (x y : Int) => decide (x ≤ y)) (fun a b c h1 h2 => by simp only [decide_eq_true_eq] at *; omega) (fun a b => by simp only [Bool.or_eq_true, decide_eq_true_eq]; omega) ss
    exact this.imp (fun h => by simpa using h)
  · unfold idsO
    rw [List.pairwise_map]
    exact ha.imp (fun h => by omega)

theorem keys_any (mb : Option Nat) (w : World) : Calls Tryz.prog 36 #[.map mb] w fun e w' =>
    e = .returned (.func (.func 49) #[] #[.pointer (some ⟨w.heap.size, 0, none⟩)]) ∧ w' = w.alloc (.cells #[.map mb] 54) :=
  callsIn_wide.1 (AnyZI.keys_in Tryz.keysH Fence.wide 5 trivial rfl mb w)

/-- A new list of numbers, or nil where there is none. -/
def NewInts (w : World) (B : Nat) (v : Value) (L : List Int) : Prop := (L = [] ∧ v = .slice none 0 0) ∨ ∃ b c, v = .slice (some ⟨b, 0, none⟩) L.length c ∧ B ≤ b ∧ IntRow w b 3 L

theorem sorted_any (M n : Nat) (E : List OwnT) (ha : Asc E) (hn : E.length ≤ 1000) (w w1 : World) (hown : w.ownsMap Tryz.prog 3 RH M n (mapH E)) (h1 : w1 = w.alloc (.cells #[.map (some M)] 54)) :
    Calls Tryz.prog 35 #[.func (.func 49) #[] #[.pointer (some ⟨w.heap.size, 0, none⟩)]] w1 fun e w' =>
      ∃ v, e = .returned v ∧ NewInts w' w.heap.size v (idsO E) ∧ Below w.heap.size w w' := by
  subst h1
  have hbl := hown.lt
  have hsz : Maps.size (mapH E) = E.length := mapH_size E
  have hseq : SeqGives Fence.wide 2 Tryz.prog 49 #[.pointer (some ⟨w.heap.size, 0, none⟩)] encZ (fun ss => ss.Perm (intKeys (mapH E))) (Maps.size (mapH E)) (w.alloc (.cells #[.map (some M)] 54)) :=
    AnyZI.keys_gives (ρ := Tryz.keysH_ren) { Tryz.keysH with } Fence.wide _ trivial rfl (by omega) w.heap.size M n (mapH E) _ (by simp) (by simp) (by
      obtain ⟨es, clock, hb, Ft, hs, hD⟩ := hown
      exact ⟨es, clock, (Below.heap_alloc _ _ M hbl).trans hb, Ft, hs, hD⟩)
  have cS := AnyZI.sorted_in Tryz.sortedH Fence.wide 5 trivial trivial trivial trivial rfl (by omega) (sortsH _) (enters_of Tryz.func43 (by kernel_rfl) rfl) 49 #[.pointer (some ⟨w.heap.size, 0, none⟩)] trivial (enters_of Tryz.func49 (by kernel_rfl) rfl) _ _ (by rw [hsz]; unfold maxLen; omega) (by rw [hsz]; omega) _ hseq
  change CallsIn _ _ Tryz.prog 35 _ _ _ at cS
  refine (callsIn_wide.1 cS).mono ?_
  rintro e w' ⟨v, ss, rfl, hS, hrow, hnil, hb⟩
  rw [keys_of] at hS
  rw [sort_ids ha hS] at hrow
  have hlen : ss.length = (idsO E).length := hS.length_eq
  have hB : Below w.heap.size w w' := ((Below.refl _ w).alloc (Nat.le_refl _) _).trans (hb.mono (by simp))
  refine ⟨v, rfl, ?_, hB⟩
  by_cases h0 : (idsO E) = []
  · exact Or.inl ⟨h0, hnil.2 (List.length_eq_zero_iff.mp (by rw [hlen, h0]; rfl))⟩
  · have hp : 0 < ss.length := by rw [hlen]; exact List.length_pos_iff.mpr h0
    obtain ⟨g, c, rfl, hg, hr⟩ := IntRow.of_row hp hrow
    exact Or.inr ⟨g, c, by rw [hlen], Nat.le_trans (by simp) hg, hr⟩
end Go.Proofs.YtkdbenoleendcaaGreatDoor
