/- pack: plain: the proof in order, and why fit.Check takes it. -/
import Derived.Test.YthabgljdndbphaaGreatDoorQPKM03
import Derived.Test.YthabgljdndbphaaGreatDoorQPKM18

set_option linter.unusedVariables false
set_option linter.unusedSimpArgs false
namespace Go.Proofs.YthabgljdndbphaaGreatDoor
set_option linter.unusedSimpArgs false
set_option linter.unusedVariables false

def negP (r : Int × Bool) : Bool := decide (r.1 < 0)
def oneP (r : Int × Bool) : Bool := r.2 && decide (r.1 = 1)
def sumL (L : List (Int × Bool)) : Int := (L.map (·.1)).sum
def restR (L : List (Int × Bool)) : List Int := if 0 < sumL L then [sumL L] else []
/-- What the groups from g on can bring at most, in the rooms that are left. -/
def restB (G : List (Int × Int)) (g : Nat) (L : List (Int × Bool)) : Int := boundS (restR L) (G.drop g)

/-- The step for some decisions; leaf: where neither a run is too small nor the bound is right. -/
def stpHead (G : List (Int × Int)) (val : Int) (g : Nat) (L : List (Int × Bool)) (gain : Int) (leaf : List StepT) : List StepT :=
 match L.findIdx? negP with
 | some i => [⟨3, (i : Int), []⟩]
 | none => if gain + restB G g L ≤ val then [⟨2, 0, []⟩] else leaf
/-- The kid that is made for a choice: W = [run], or [-1]. -/
def stpKid (F : List (Int × Bool) → Int → Nat → List StepT) (G : List (Int × Int)) (g : Nat) (L : List (Int × Bool)) (gain : Int) (W : List Int) (b : Nat) : List StepT :=
 if ix W 0 < 0 then F L gain b else F (sitF L (ix W 0).toNat (gs G g)) (gain + gs G g * gv G g) b
/-- The steps of the proof in order, from number base on. -/
def stpF (G : List (Int × Int)) (val : Int) : Nat → Nat → List (Int × Bool) → Int → Nat → List StepT
 | 0, g, L, gain, _ => stpHead G val g L gain [⟨3, idxS oneP L, []⟩]
 | k + 1, g, L, gain, base => stpHead G val g L gain
   (⟨1, (g : Int), (prvKids (stpKid (stpF G val k (g + 1)) G g L gain) [0] 0 L.length base (L.length + 1)).2⟩ :: (prvKids (stpKid (stpF G val k (g + 1)) G g L gain) [0] 0 L.length base (L.length + 1)).1)
/-- The kids of a step up to choice r. -/
def kidsU (G : List (Int × Int)) (val : Int) (k g : Nat) (L : List (Int × Bool)) (gain : Int) (base r : Nat) : List StepT × List Int :=
 prvKids (stpKid (stpF G val k (g + 1)) G g L gain) [0] 0 L.length base r

section
variable {G : List (Int × Int)} {val : Int} {k g : Nat} {L : List (Int × Bool)} {gain : Int} {base : Nat}
theorem stp_neg {i : Nat} (h : L.findIdx? negP = some i) : stpF G val k g L gain base = [⟨3, (i : Int), []⟩] := by
 cases k <;> simp [stpF, stpHead, h]
theorem stp_bound (h : L.findIdx? negP = none) (hb : gain + restB G g L ≤ val) : stpF G val k g L gain base = [⟨2, 0, []⟩] := by
 cases k <;> simp [stpF, stpHead, h, hb]
theorem stp_zero (h : L.findIdx? negP = none) (hb : ¬ gain + restB G g L ≤ val) : stpF G val 0 g L gain base = [⟨3, idxS oneP L, []⟩] := by
 rw [stpF, stpHead, h]
 simp only [if_neg hb]
theorem stp_succ (h : L.findIdx? negP = none) (hb : ¬ gain + restB G g L ≤ val) : stpF G val (k + 1) g L gain base = ⟨1, (g : Int), (kidsU G val k g L gain base (L.length + 1)).2⟩ :: (kidsU G val k g L gain base (L.length + 1)).1 := by
 rw [stpF, stpHead, h]
 simp only [if_neg hb]
 rfl
theorem kid_run (F : List (Int × Bool) → Int → Nat → List StepT) (r n b : Nat) (h : r ≠ n) : stpKid F G g L gain (([0] : List Int).set 0 (if r = n then -1 else (r : Int))) b = F (sitF L r (gs G g)) (gain + gs G g * gv G g) b := by
 unfold stpKid
 rw [if_neg h]
 have : ix (([0] : List Int).set 0 (r : Int)) 0 = r := rfl
 rw [this, if_neg (by omega), Int.toNat_natCast]
theorem kid_none (F : List (Int × Bool) → Int → Nat → List StepT) (n b : Nat) : stpKid F G g L gain (([0] : List Int).set 0 (if n = n then -1 else (n : Int))) b = F L gain b := by
 unfold stpKid
 rw [if_pos rfl]
 have : ix (([0] : List Int).set 0 (-1 : Int)) 0 = -1 := rfl
 rw [this, if_pos (by omega)]
theorem kidsU_zero : kidsU G val k g L gain base 0 = ([], []) := rfl
theorem kidsU_run {r : Nat} (h : r < L.length) : kidsU G val k g L gain base (r + 1) = ((kidsU G val k g L gain base r).1 ++ stpF G val k (g + 1) (sitF L r (gs G g)) (gain + gs G g * gv G g) (base + 1 + (kidsU G val k g L gain base r).1.length), (kidsU G val k g L gain base r).2 ++ [((base + 1 + (kidsU G val k g L gain base r).1.length : Nat) : Int)]) := by
 unfold kidsU
 rw [prvKids, kid_run _ _ _ _ (by omega)]
theorem kidsU_none : kidsU G val k g L gain base (L.length + 1) = ((kidsU G val k g L gain base L.length).1 ++ stpF G val k (g + 1) L gain (base + 1 + (kidsU G val k g L gain base L.length).1.length), (kidsU G val k g L gain base L.length).2 ++ [((base + 1 + (kidsU G val k g L gain base L.length).1.length : Nat) : Int)]) := by
 unfold kidsU
 rw [prvKids, kid_none]
theorem sit_len (L : List (Int × Bool)) (i : Nat) (s : Int) : (sitF L i s).length = L.length := by unfold sitF; simp
theorem stp_pos : 1 ≤ (stpF G val k g L gain base).length := by
 cases k with
 | zero => rw [stpF, stpHead]; split <;> first | simp | (split <;> simp)
 | succ k => rw [stpF, stpHead]; split <;> first | simp | (split <;> simp)
end
/-- At most so many steps. -/
def stpCap (n : Nat) : Nat → Nat
 | 0 => 1
 | k + 1 => 1 + (n + 1) * stpCap n k
theorem stpCap_pos (n : Nat) : ∀ k, 1 ≤ stpCap n k
 | 0 => Nat.le_refl _
 | k + 1 => by rw [stpCap]; omega
theorem stp_cap {G : List (Int × Int)} {val : Int} : ∀ (k g : Nat) (L : List (Int × Bool)) (gain : Int) (base : Nat), (stpF G val k g L gain base).length ≤ stpCap L.length k
 | 0, g, L, gain, base => by
  rw [stpF, stpHead]
  split
  ·
   simp [stpCap]
  ·
   split <;> simp [stpCap]
 | k + 1, g, L, gain, base => by
  have h1 := stpCap_pos L.length (k + 1)
  cases hn : L.findIdx? negP with
  | some i => rw [stp_neg hn]; simpa using h1
  | none =>
   by_cases hb : gain + restB G g L ≤ val
   ·
    rw [stp_bound hn hb]; simpa using h1
   ·
    rw [stp_succ hn hb, List.length_cons, stpCap]
    have key : ∀ r, r ≤ L.length → (kidsU G val k g L gain base r).1.length ≤ r * stpCap L.length k := by
     intro r
     induction r with
     | zero => intro _; simp [kidsU_zero]
     | succ r ih =>
      intro hr
      rw [kidsU_run (by omega), List.length_append, Nat.add_mul]
      have := stp_cap (G := G) (val := val) k (g + 1) (sitF L r (gs G g)) (gain + gs G g * gv G g) (base + 1 + (kidsU G val k g L gain base r).1.length)
      rw [sit_len] at this
      have := ih (by omega)
      omega
    rw [kidsU_none, List.length_append, Nat.add_mul]
    have := key L.length (Nat.le_refl _)
    have := stp_cap (G := G) (val := val) k (g + 1) L gain (base + 1 + (kidsU G val k g L gain base L.length).1.length)
    omega

/-! ### The bound of what is left -/
theorem gs_drop (G : List (Int × Int)) (g i : Nat) : gs (G.drop g) i = gs G (g + i) ∧ gv (G.drop g) i = gv G (g + i) := by
 unfold gs gv
 simp [List.getD_eq_getElem?_getD, List.getElem?_drop]
theorem groupsOk_iff (G : List (Int × Int)) : groupsOk G = true ↔ ValuesOk G := by
 unfold groupsOk ValuesOk
 simp only [Bool.not_eq_true', List.any_eq_false]
 constructor
 ·
  intro h k hk
  have := h G[k] (List.getElem_mem hk)
  unfold badG at this
  unfold gs gv
  simp [hk] at this ⊢
  omega
 ·
  intro h x hx
  obtain ⟨k, hk, rfl⟩ := List.mem_iff_getElem.1 hx
  have := h k hk
  unfold gs gv at this
  unfold badG
  simp [hk] at this ⊢
  omega
theorem values_drop {G : List (Int × Int)} (h : ValuesOk G) (g : Nat) : ValuesOk (G.drop g) := fun k hk => by
 rw [List.length_drop] at hk
 obtain ⟨h1, h2⟩ := gs_drop G g k
 rw [h1, h2]
 exact h (g + k) (by omega)
theorem restB_eq {G : List (Int × Int)} {g : Nat} {L : List (Int × Bool)} (hv : ValuesOk G) (hm : G.length ≤ 4000) (h0 : 0 ≤ sumL L) (h1 : sumL L ≤ 4000) : restB G g L = fillS (G.drop g) (fun _ => false) (sumL L) (rankedL (G.drop g)) := by
 unfold restB boundS
 have hval : validS (restR L) (G.drop g) = true := by
  unfold validS
  rw [(groupsOk_iff _).2 (values_drop hv g), decide_eq_true (by rw [List.length_drop]; omega)]
  unfold restR
  split
  ·
   simp [runsOk]; omega
  ·
   simp [runsOk]
 rw [if_pos hval]
 unfold restR
 split
 ·
  simp
 ·
  have : sumL L = 0 := by omega
  rw [this]
  rfl
end Go.Proofs.YthabgljdndbphaaGreatDoor
