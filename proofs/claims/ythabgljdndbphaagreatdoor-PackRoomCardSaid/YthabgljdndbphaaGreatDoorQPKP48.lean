/- pack: plain: fit.Check takes the proof. -/
import Derived.Test.YthabgljdndbphaaGreatDoorQPKP26
import Derived.Test.YthabgljdndbphaaGreatDoorQPKP32

set_option linter.unusedVariables false
set_option linter.unusedSimpArgs false
namespace Go.Proofs.YthabgljdndbphaaGreatDoor
set_option linter.unusedSimpArgs false
set_option linter.unusedVariables false

/-- The choices with one more. -/
def updC (c : Nat → Int) (g : Nat) (v : Int) : Nat → Int := fun i => if i = g then v else c i
theorem updC_lt (c : Nat → Int) (g : Nat) (v : Int) {i : Nat} (h : i < g) : updC c g v i = c i := by unfold updC; rw [if_neg (by omega)]
theorem updC_at (c : Nat → Int) (g : Nat) (v : Int) : updC c g v g = v := by unfold updC; rw [if_pos rfl]
theorem dec_upd (c : Nat → Int) (g : Nat) (v : Int) : dec (updC c g v) (g + 1) = dec c g ++ [((g : Int), v)] := by
 rw [dec_succ, updC_at, dec_congr _ c g fun i hi => updC_lt c g v hi]
/-- What the runs are when the groups before g have their choices. -/
structure At (R : List Int) (G : List (Int × Int)) (c : Nat → Int) (g : Nat) (L : List (Int × Bool)) : Prop where
 runs : ∀ i, i < g → -1 ≤ c i ∧ c i < R.length
 rooms : L.map (·.1) = roomS R G (dec c g)
 used : UsedOk R.length (dec c g) (L.map (·.2))
section
variable {R : List Int} {G : List (Int × Int)} {c : Nat → Int} {g : Nat} {L : List (Int × Bool)}
theorem At.len (h : At R G c g L) : L.length = R.length := by
 have := congrArg List.length h.rooms
 rw [roomS_len, List.length_map] at this
 exact this
theorem At.room (h : At R G c g L) {r : Nat} (hr : r < L.length) : ix (roomS R G (dec c g)) r = L[r].1 := by
 rw [← h.rooms]
 unfold ix
 simp [hr]
theorem At.use (h : At R G c g L) {r : Nat} (hr : r < L.length) : L[r].2 = true ↔ ∃ p ∈ dec c g, p.2 = (r : Int) := by
 rw [← h.used.2 r (by rw [← h.len]; exact hr)]
 unfold bx
 simp [hr]
theorem At.sit (h : At R G c g L) {r : Nat} (hr : r < R.length) : At R G (updC c g r) (g + 1) (sitF L r (gs G g)) := by
 have hl := h.len
 obtain ⟨m1, m2⟩ := sit_maps L (q := r) (by omega) (gs G g)
 refine ⟨fun i hi => ?_, ?_, ?_⟩
 ·
  by_cases e : i = g
  ·
   subst e; rw [updC_at]; omega
  ·
   rw [updC_lt _ _ _ (by omega)]; exact h.runs i (by omega)
 ·
  rw [m1, dec_upd, roomS_push, roomF]
  dsimp only
  rw [if_pos (by omega), Int.toNat_natCast, Int.toNat_natCast, h.rooms]
 ·
  rw [m2, dec_upd]
  exact h.used.sit _ r hr
theorem At.out (h : At R G c g L) : At R G (updC c g (-1)) (g + 1) L := by
 refine ⟨fun i hi => ?_, ?_, ?_⟩
 ·
  by_cases e : i = g
  ·
   subst e; rw [updC_at]; omega
  ·
   rw [updC_lt _ _ _ (by omega)]; exact h.runs i (by omega)
 ·
  rw [dec_upd, roomS_push, roomF]
  dsimp only
  rw [if_neg (by omega), h.rooms]
 ·
  rw [dec_upd]
  exact h.used.out _ (-1) (by omega)
theorem At.start (R : List Int) (G : List (Int × Int)) (c : Nat → Int) : At R G c 0 (R.map run0) := by
 refine ⟨fun i hi => absurd hi (Nat.not_lt_zero _), ?_, ?_⟩
 ·
  rw [List.map_map]
  show R.map (fun x => x) = R
  simp
 ·
  have : (R.map run0).map (·.2) = List.replicate R.length false := by
   rw [List.map_map]
   show R.map (fun _ => false) = _
   exact List.map_const' ..
  rw [this]
  exact used_none _
theorem val_sit (G : List (Int × Int)) (c : Nat → Int) (g r : Nat) : valS G (dec (updC c g r) (g + 1)) = valS G (dec c g) + gs G g * gv G g := by
 rw [dec_upd, valS_push, valF]
 dsimp only
 rw [if_pos (by omega), Int.toNat_natCast]
theorem val_out (G : List (Int × Int)) (c : Nat → Int) (g : Nat) : valS G (dec (updC c g (-1)) (g + 1)) = valS G (dec c g) := by
 rw [dec_upd, valS_push, valF]
 dsimp only
 rw [if_neg (by omega)]
end

section
variable {single : Bool} {R : List Int} {G : List (Int × Int)} {val : Int} {T : List StepT}

end
end Go.Proofs.YthabgljdndbphaaGreatDoor
